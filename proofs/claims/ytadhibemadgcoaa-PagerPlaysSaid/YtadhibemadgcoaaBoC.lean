/- The pager laws' do: Abort, Use, the other kinds; all of it. Conditions: as each theorem says. -/
import Derived.Test.YtadhibemadgcoaaBoB
namespace Go.Proofs.Ytadhibemadgcoaa
open Go.RowKit

theorem anyH_name {P : Program} {md : Region.Mode} {ops : Array Oper} {Q : Exit → Act → World → Prop} {S : World → Prop} {fuel : Nat} {listed : Array Bool} {a : Act} {w : World} (F : World → Prop) (hF : F w) (h : ∀ W, F W → wpAnyH P md ops Q S fuel listed a W) :
    wpAnyH P md ops Q S fuel listed a w := h w hF
theorem ints_two {W : World} {b : Nat} {n m : Int} (h : W.heap[b]? = some (.cells #[.int .i64 n, .int .i64 m] 3 (0, 0))) : Ints W (.slice (some ⟨b, 0, none⟩) 2 2) [n, m] :=
  .inr ⟨b, 0, 2, _, _, _, rfl, h, fun j x hx => by
    rcases j with _ | _ | j
    · simp at hx; subst hx; rfl
    · simp at hx; subst hx; rfl
    · simp at hx⟩
theorem Ints.chq {S : Nat → Prop} {w w' : World} {b : Nat} {l : List Int} {n c : Nat} (h : Ints w (.slice (some ⟨b, 0, none⟩) n c) l) (hc : Ch S w w') (hn : ¬ S b) : Ints w' (.slice (some ⟨b, 0, none⟩) n c) l := by
  rcases h with ⟨a, cap, e, rfl⟩ | ⟨b', off, cap, cs, e, fz, e1, hb, hcs⟩
  · exact .inl ⟨a, cap, e, rfl⟩
  · have e2 := e1
    simp only [Value.slice.injEq, Option.some.injEq, Addr.mk.injEq] at e2
    obtain ⟨⟨rfl, _⟩, _⟩ := e2
    exact .inr ⟨b, off, cap, cs, e, fz, e1, hc.keep hb hn, hcs⟩

set_option maxRecDepth 100000 in
set_option maxHeartbeats 8000000 in
theorem bdo7_any {w0 : World} {pp dp rp rq xb b : Nat} {p : Pg} {Q Qr : Nat → Prop} (n m : Int) (s : ByteArray) (ka : Option Addr) (kl kcap : Nat) (w : World) (h : Two w0 w pp dp rp rq p Q Qr) (hb : PB p b)
    (hx1 : w.cell? ⟨xb, 1, none⟩ = some (.pointer (some ⟨pp, 0, none⟩))) (hx3 : w.cell? ⟨xb, 3, none⟩ = some (.pointer (some ⟨rp, 0, none⟩))) (hxq : ¬ Q xb ∧ ¬ Qr xb) (hwn : (Lit.int .i64 n).wf = true) (hwm : (Lit.int .i64 m).wf = true) :
    Calls Try.prog 75 #[.pointer (some ⟨xb, 0, none⟩), .agg #[.int .i64 7, .int .i64 n, .int .i64 m, .string s, .slice ka kl kcap]] w (BDo w0 w pp dp rp rq Q Qr b) := by
  have hq0 : Ch (fun _ => False) w (w.alloc (.cells #[.int .i64 7, .int .i64 n, .int .i64 m, .string s, .slice ka kl kcap] 112)).drew := ((Ch.refl _ w).alloc _).drew
  have HQ0 := hid hq0
  have HT0 := hid h
  have HXq := hid hxq
  have HAb : Hid (¬ Q w.heap.size ∧ ¬ Qr w.heap.size) := hid ⟨fun hQ => by have := (h.z.lt _ hQ).2; omega, fun hQ => by have := (h.r.lt _ hQ).2; omega⟩
  have hbox : (w.alloc (.cells #[.int .i64 7, .int .i64 n, .int .i64 m, .string s, .slice ka kl kcap] 112)).drew.heap[w.heap.size]? = some (.cells #[.int .i64 7, .int .i64 n, .int .i64 m, .string s, .slice ka kl kcap] 112 (0, 0)) := heap_drew (heap_new _)
  have HS0 := hid (show (w.alloc (.cells #[.int .i64 7, .int .i64 n, .int .i64 m, .string s, .slice ka kl kcap] 112)).drew.cell? ⟨xb, 1, none⟩ = some (.pointer (some ⟨pp, 0, none⟩)) ∧ (w.alloc (.cells #[.int .i64 7, .int .i64 n, .int .i64 m, .string s, .slice ka kl kcap] 112)).drew.cell? ⟨xb, 3, none⟩ = some (.pointer (some ⟨rp, 0, none⟩)) ∧ (w.alloc (.cells #[.int .i64 7, .int .i64 n, .int .i64 m, .string s, .slice ka kl kcap] 112)).drew.cell? ⟨w.heap.size, 0, none⟩ = some (.int .i64 7) ∧ (w.alloc (.cells #[.int .i64 7, .int .i64 n, .int .i64 m, .string s, .slice ka kl kcap] 112)).drew.cell? ⟨w.heap.size, 1, none⟩ = some (.int .i64 n) ∧ (w.alloc (.cells #[.int .i64 7, .int .i64 n, .int .i64 m, .string s, .slice ka kl kcap] 112)).drew.cell? ⟨w.heap.size, 2, none⟩ = some (.int .i64 m) ∧ (w.alloc (.cells #[.int .i64 7, .int .i64 n, .int .i64 m, .string s, .slice ka kl kcap] 112)).drew.cell? ⟨w.heap.size, 3, none⟩ = some (.string s) from
    ⟨cell_ch2 hx1 hq0 (fun h => h), cell_ch2 hx3 hq0 (fun h => h), by rw [cell_blk hbox]; rfl, by rw [cell_blk hbox]; rfl, by rw [cell_blk hbox]; rfl, by rw [cell_blk hbox]; rfl⟩)
  obtain ⟨p', HP'⟩ : ∃ p', Hid ((useP p [n, m]).2 = p') := ⟨_, hid rfl⟩
  have HPB := hid (hb.use [n, m])
  rw [HP'.out] at HPB
  obtain ⟨a0, HA0⟩ : ∃ a, Hid ((useP p [n, m]).1 = a) := ⟨_, hid rfl⟩
  have hc1 := fun (W : World) (bb : Nat) (hz : PZ w0 W pp dp p Q) (hi : Ints W (.slice (some ⟨bb, 0, none⟩) 2 2) [n, m]) (hq : ¬ Q bb) => use_z (some ⟨bb, 0, none⟩) 2 [n, m] W hz hi (by simp) (fun x hx => by
    rcases List.mem_cons.1 hx with rfl | hx
    · exact hwn
    · simp at hx; subst hx; exact hwm) (fun k hk hQ => by
    obtain rfl : bb = k := by simpa [Value.ownBlock] using hk
    exact hq hQ)
  have hc2 := fun (W : World) (bb : Nat) (hz : RZ w0 W rp rq p Qr) (hi : Ints W (.slice (some ⟨bb, 0, none⟩) 2 2) [n, m]) (hq : ¬ Qr bb) => ruse_any (some ⟨bb, 0, none⟩) 2 [n, m] W hz hi (by simp) (fun k hk hQ => by
    obtain rfl : bb = k := by simpa [Value.ownBlock] using hk
    exact hq hQ)
  unfold RUsePost at hc2
  rw [HP'.out, HA0.out] at hc1
  rw [HP'.out, HA0.out] at hc2
  have HC1 : Hid (∀ (W : World) (bb : Nat), PZ w0 W pp dp p Q → Ints W (.slice (some ⟨bb, 0, none⟩) 2 2) [n, m] → ¬ Q bb → Calls Try.prog 69 #[.pointer (some ⟨pp, 0, none⟩), .slice (some ⟨bb, 0, none⟩) 2 2] W fun e w' => e = .returned (.int .i64 (a0 : Int)) ∧ ZPost w0 W pp dp p' Q w') := hid hc1
  have HC2 : Hid (∀ (W : World) (bb : Nat), RZ w0 W rp rq p Qr → Ints W (.slice (some ⟨bb, 0, none⟩) 2 2) [n, m] → ¬ Qr bb → Calls Try.prog 111 #[.pointer (some ⟨rp, 0, none⟩), .slice (some ⟨bb, 0, none⟩) 2 2] W fun e w' => e = .returned (.int .i64 (a0 : Int)) ∧ RPost w0 W rp rq p' Qr w') := hid hc2
  have hbq0 : ((a0 : Int) == (a0 : Int)) = true := by simp
  clear h hb hx1 hx3 hxq hq0 hbox hc1 hc2 hwn hwm
  go_enter Try.func75, Try.ntmps75
  go_wp2_with fail
  refine wp_region_noPanic ?_
  refine wp_region_held_drew (S := (fun W => W.cell? ⟨xb, 1, none⟩ = some (.pointer (some ⟨pp, 0, none⟩)) ∧ W.cell? ⟨xb, 3, none⟩ = some (.pointer (some ⟨rp, 0, none⟩)) ∧ W.cell? ⟨w.heap.size, 0, none⟩ = some (.int .i64 7) ∧ W.cell? ⟨w.heap.size, 1, none⟩ = some (.int .i64 n) ∧ W.cell? ⟨w.heap.size, 2, none⟩ = some (.int .i64 m) ∧ W.cell? ⟨w.heap.size, 3, none⟩ = some (.string s))) (by kernel_rfl) HS0.out (fun hHeld => ?_)
  refine wpAnyH_take (i := 0) (v := ?_) rfl (by kernel_rfl) (by kernel_rfl) (by kernel_rfl) (fun _ _ _ h => h) (Or.inl ⟨by rfl, ?_⟩) (by assumption) ?_
  rotate_left
  · intro w hSw
    try dsimp only at hSw
    go_simp
    all_goals with_reducible rfl
  try simp only [lay_all]
  refine wpAnyH_take (i := 1) (v := ?_) rfl (by kernel_rfl) (by kernel_rfl) (by kernel_rfl) (fun _ _ _ h => h) (Or.inl ⟨by rfl, ?_⟩) (by assumption) ?_
  rotate_left
  · intro w hSw
    try dsimp only at hSw
    go_simp
    all_goals with_reducible rfl
  try simp only [lay_all]
  refine wpAnyH_take (i := 2) (v := ?_) rfl (by kernel_rfl) (by kernel_rfl) (by kernel_rfl) (fun _ _ _ h => h) (Or.inl ⟨by rfl, ?_⟩) (by assumption) ?_
  rotate_left
  · intro w hSw
    try dsimp only at hSw
    go_simp
    all_goals with_reducible rfl
  try simp only [lay_all]
  refine wpAnyH_take (i := 3) (v := ?_) rfl (by kernel_rfl) (by kernel_rfl) (by kernel_rfl) (fun _ _ _ h => h) (Or.inl ⟨by rfl, ?_⟩) (by assumption) ?_
  rotate_left
  · intro w hSw
    try dsimp only at hSw
    go_simp
    all_goals with_reducible rfl
  try simp only [lay_all]
  refine wpAnyH_take (i := 4) (v := ?_) rfl (by kernel_rfl) (by kernel_rfl) (by kernel_rfl) (fun _ _ _ h => h) (Or.inl ⟨by rfl, ?_⟩) (by assumption) ?_
  rotate_left
  · intro w hSw
    try dsimp only at hSw
    go_simp
    all_goals with_reducible rfl
  try simp only [lay_all]
  refine wpAnyH_take (i := 5) (v := ?_) rfl (by kernel_rfl) (by kernel_rfl) (by kernel_rfl) (fun _ _ _ h => h) (Or.inl ⟨by rfl, ?_⟩) (by assumption) ?_
  rotate_left
  · intro w hSw
    try dsimp only at hSw
    go_simp
    all_goals with_reducible rfl
  try simp only [lay_all]
  refine wpAnyH_take (i := 6) (v := ?_) rfl (by kernel_rfl) (by kernel_rfl) (by kernel_rfl) (fun _ _ _ h => h) (Or.inl ⟨by rfl, ?_⟩) (by assumption) ?_
  rotate_left
  · intro w hSw
    try dsimp only at hSw
    go_simp
    all_goals with_reducible rfl
  try simp only [lay_all]
  refine wpAnyH_take (i := 7) (v := ?_) rfl (by kernel_rfl) (by kernel_rfl) (by kernel_rfl) (fun _ _ _ h => h) (Or.inl ⟨by rfl, ?_⟩) (by assumption) ?_
  rotate_left
  · intro w hSw
    try dsimp only at hSw
    go_simp
    all_goals with_reducible rfl
  try simp only [lay_all]
  refine wpAnyH_take (i := 11) (v := ?_) rfl (by kernel_rfl) (by kernel_rfl) (by kernel_rfl) (fun _ _ _ h => h) (Or.inl ⟨by rfl, ?_⟩) (by assumption) ?_
  rotate_left
  · intro w hSw
    try dsimp only at hSw
    go_simp
    all_goals with_reducible rfl
  try simp only [lay_all]
  refine wpAnyH_take (i := 12) (v := ?_) rfl (by kernel_rfl) (by kernel_rfl) (by kernel_rfl) (fun _ _ _ h => h) (Or.inl ⟨by rfl, ?_⟩) (by assumption) ?_
  rotate_left
  · intro w hSw
    try dsimp only at hSw
    go_simp
    all_goals with_reducible rfl
  try simp only [lay_all]
  refine wpAnyH_take (i := 13) (v := ?_) rfl (by kernel_rfl) (by kernel_rfl) (by kernel_rfl) (fun _ _ _ h => h) (Or.inl ⟨by rfl, ?_⟩) (by assumption) ?_
  rotate_left
  · intro w hSw
    try dsimp only at hSw
    go_simp
    all_goals with_reducible rfl
  try simp only [lay_all]
  refine wpAnyH_take (i := 14) (v := ?_) rfl (by kernel_rfl) (by kernel_rfl) (by kernel_rfl) (fun _ _ _ h => h) (Or.inl ⟨by rfl, ?_⟩) (by assumption) ?_
  rotate_left
  · intro w hSw
    try dsimp only at hSw
    go_simp
    all_goals with_reducible rfl
  try simp only [lay_all]
  refine wpAnyH_take (i := 15) (v := ?_) rfl (by kernel_rfl) (by kernel_rfl) (by kernel_rfl) (fun _ _ _ h => h) (Or.inl ⟨by rfl, ?_⟩) (by assumption) ?_
  rotate_left
  · intro w hSw
    try dsimp only at hSw
    go_simp
    all_goals with_reducible rfl
  try simp only [lay_all]
  refine wpAnyH_take (i := 16) (v := ?_) rfl (by kernel_rfl) (by kernel_rfl) (by kernel_rfl) (fun _ _ _ h => h) (Or.inl ⟨by rfl, ?_⟩) (by assumption) ?_
  rotate_left
  · intro w hSw
    try dsimp only at hSw
    go_simp
    all_goals with_reducible rfl
  try simp only [lay_all]
  refine wpAnyH_take (i := 17) (v := ?_) rfl (by kernel_rfl) (by kernel_rfl) (by kernel_rfl) (fun _ _ _ h => h) (Or.inl ⟨by rfl, ?_⟩) (by assumption) ?_
  rotate_left
  · intro w hSw
    try dsimp only at hSw
    go_simp
    all_goals with_reducible rfl
  try simp only [lay_all]
  refine wpAnyH_take (i := 18) (v := ?_) rfl (by kernel_rfl) (by kernel_rfl) (by kernel_rfl) (fun _ _ _ h => h) (Or.inl ⟨by rfl, ?_⟩) (by assumption) ?_
  rotate_left
  · intro w hSw
    try dsimp only at hSw
    go_simp
    all_goals with_reducible rfl
  try simp only [lay_all]
  refine anyH_name (fun W' => Ch (fun _ => False) w W' ∧ W'.cell? ⟨xb, 1, none⟩ = some (.pointer (some ⟨pp, 0, none⟩)) ∧ W'.cell? ⟨xb, 3, none⟩ = some (.pointer (some ⟨rp, 0, none⟩)) ∧ W'.cell? ⟨w.heap.size, 0, none⟩ = some (.int .i64 7) ∧ W'.cell? ⟨w.heap.size, 1, none⟩ = some (.int .i64 n) ∧ W'.cell? ⟨w.heap.size, 2, none⟩ = some (.int .i64 m) ∧ W'.cell? ⟨w.heap.size, 3, none⟩ = some (.string s)) ⟨HQ0.out, HS0.out⟩ ?_
  rintro W0 ⟨ch, hs⟩
  have SW0 := hid hs
  have TW0 := hid (HT0.out.quiet ch)
  have CW0 := hid ch
  clear hHeld ch hs
  refine wpAnyH_ready (rs := [8, 19]) (by kernel_rfl) (by simp) ?_
  refine (AllReadyH.cons rfl (fun K hK => ?_) (AllReadyH.cons rfl (fun K hK => ?_) AllReadyH.nil))
  · go_simp
    refine hK.out _ _ (keep6 SW0.out ((Ch.refl (fun _ => False) W0).alloc _) (fun _ _ h => h) (fun _ _ h => h)) (fun hHeld => ?_)
    clear hK K
    try simp only [lay_all]
    refine anyH_name (fun W' => Ch (fun _ => False) W0 W' ∧ W'.heap[W0.heap.size]? = some (.cells #[.int .i64 n, .int .i64 m] 3 (0, 0)) ∧ W0.heap.size < W'.heap.size) ⟨(Ch.refl _ _).alloc _, heap_new _, by simp⟩ ?_
    rintro W1 ⟨ch, hbk, zz⟩
    have SW1 := hid (keep6 SW0.out ch (fun _ _ h => h) (fun _ _ h => h))
    have TW1 := hid (TW0.out.quiet ch)
    have CW1 := hid (CW0.out.trans ch)
    have I1W1 : Hid (Ints W1 (.slice (some ⟨W0.heap.size, 0, none⟩) 2 2) [n, m] ∧ ¬ Q W0.heap.size ∧ ¬ Qr W0.heap.size) := hid ⟨ints_two hbk, fun h => by have := (TW0.out.z.lt _ h).2; omega, fun h => by have := (TW0.out.r.lt _ h).2; omega⟩
    clear hHeld ch hbk zz
    refine wpAnyH_ready (rs := [9, 19]) (by kernel_rfl) (by simp) ?_
    refine (AllReadyH.cons rfl (fun K hK => ?_) (AllReadyH.cons rfl (fun K hK => ?_) AllReadyH.nil))
    · go_simp
      refine (HC1.out _ _ TW1.out.z I1W1.out.1 I1W1.out.2.1).mono ?_
      rintro e W2 ⟨rfl, hz1⟩
      have SW2 := hid (keep6 SW1.out (zch hz1) (fun q hq => by subst hq; exact HXq.out.1) (fun q hq hQ => by subst hq; exact HAb.out.1 hQ))
      obtain ⟨Q1, z1, r1, d1, f1, c1⟩ := TW1.out.mid hz1
      have HZzW2 := hid (And.intro z1 (And.intro d1 (And.intro f1 c1)))
      have HRrW2 := hid r1
      have HRlW2 := hid TW1.out.r.lt
      have HCwW2 := CW1
      have GW2 := hid (Ch.refl (fun _ => False) W2)
      clear z1 r1 d1 f1 c1 hz1
      go_wp2_with fail
      refine hK.out _ _ SW2.out (fun hHeld => ?_)
      clear hK K
      try simp only [lay_all]
      clear hHeld
      refine wpAnyH_ready (rs := [10, 19]) (by kernel_rfl) (by simp) ?_
      refine (AllReadyH.cons rfl (fun K hK => ?_) (AllReadyH.cons rfl (fun K hK => ?_) AllReadyH.nil))
      · go_simp
        refine (no3_any _ _).mono ?_
        rintro e w' ⟨rfl, rfl⟩
        go_wp2_with fail
        refine hK.out _ _ SW2.out (fun hHeld => ?_)
        clear hK K
        try simp only [lay_all]
        clear hHeld
        refine wpAnyH_ready (rs := [19]) (by kernel_rfl) (by simp) ?_
        refine (AllReadyH.cons rfl (fun K hK => ?_) AllReadyH.nil)
        go_simp
        refine hK.out _ _ (keep6 SW2.out ((Ch.refl (fun _ => False) W2).alloc _) (fun _ _ h => h) (fun _ _ h => h)) (fun hHeld => ?_)
        clear hK K
        try simp only [lay_all]
        refine anyH_name (fun W' => Ch (fun _ => False) W2 W' ∧ W'.heap[W2.heap.size]? = some (.cells #[.int .i64 n, .int .i64 m] 3 (0, 0)) ∧ W2.heap.size < W'.heap.size) ⟨(Ch.refl _ _).alloc _, heap_new _, by simp⟩ ?_
        rintro W3 ⟨ch, hbk, zz⟩
        have SW3 := hid (keep6 SW2.out ch (fun _ _ h => h) (fun _ _ h => h))
        have GW3 := hid (GW2.out.trans ch)
        have I2W3 : Hid (Ints W3 (.slice (some ⟨W2.heap.size, 0, none⟩) 2 2) [n, m] ∧ True ∧ ¬ Qr W2.heap.size) := hid ⟨ints_two hbk, trivial, fun h => by have := (HRlW2.out _ h).2; have := HZzW2.out.2.2.2.size; have := GW2.out.size; omega⟩
        clear hHeld ch hbk zz
        refine wpAnyH_ready (rs := [20]) (by kernel_rfl) (by simp) ?_
        refine (AllReadyH.cons rfl (fun K hK => ?_) AllReadyH.nil)
        go_simp
        have HRx := hid (HRrW2.out.ch GW3.out (fun _ _ h => h) (fun _ _ h => h))
        refine (HC2.out _ _ HRx.out I2W3.out.1 I2W3.out.2.2).mono ?_
        rintro e W4 ⟨rfl, hr3⟩
        have SW4 := hid (keep6 SW3.out (rch hr3) (fun q hq => by subst hq; exact HXq.out.2) (fun q hq hQ => by subst hq; exact HAb.out.2 hQ))
        have HFin := hid (Two.fin HZzW2.out.1 HZzW2.out.2.1 HZzW2.out.2.2.1 HZzW2.out.2.2.2 HRlW2.out GW3.out hr3)
        clear hr3
        go_wp2_with fail
        refine hK.out _ _ SW4.out (fun hHeld => ?_)
        clear hK K
        try simp only [lay_all]
        refine wpAnyH_take (i := 21) (v := ?_) rfl (by kernel_rfl) (by kernel_rfl) (by kernel_rfl) (fun _ _ _ h => h) (Or.inl ⟨by rfl, ?_⟩) (by assumption) ?_
        rotate_left
        · intro w hSw
          try dsimp only at hSw
          go_simp
          all_goals with_reducible rfl
        try simp only [lay_all]
        refine wpAnyH_take (i := 22) (v := ?_) rfl (by kernel_rfl) (by kernel_rfl) (by kernel_rfl) (fun _ _ _ h => h) (Or.inl ⟨by rfl, ?_⟩) (by assumption) ?_
        rotate_left
        · intro w hSw
          try dsimp only at hSw
          go_simp
          all_goals with_reducible rfl
        try simp only [lay_all]
        refine wpAnyH_done (by kernel_rfl) ?_ _
        refine NoPanic.normal ?_
        go_wp2_with fail
        go_ret
        exact ⟨rfl, p', TPost.from_ HCwW2.out HFin.out, HPB.out⟩
      · go_simp
        refine hK.out _ _ (keep6 SW2.out ((Ch.refl (fun _ => False) W2).alloc _) (fun _ _ h => h) (fun _ _ h => h)) (fun hHeld => ?_)
        clear hK K
        try simp only [lay_all]
        refine anyH_name (fun W' => Ch (fun _ => False) W2 W' ∧ W'.heap[W2.heap.size]? = some (.cells #[.int .i64 n, .int .i64 m] 3 (0, 0)) ∧ W2.heap.size < W'.heap.size) ⟨(Ch.refl _ _).alloc _, heap_new _, by simp⟩ ?_
        rintro W5 ⟨ch, hbk, zz⟩
        have SW5 := hid (keep6 SW2.out ch (fun _ _ h => h) (fun _ _ h => h))
        have GW5 := hid (GW2.out.trans ch)
        have I2W5 : Hid (Ints W5 (.slice (some ⟨W2.heap.size, 0, none⟩) 2 2) [n, m] ∧ True ∧ ¬ Qr W2.heap.size) := hid ⟨ints_two hbk, trivial, fun h => by have := (HRlW2.out _ h).2; have := HZzW2.out.2.2.2.size; have := GW2.out.size; omega⟩
        clear hHeld ch hbk zz
        refine wpAnyH_ready (rs := [10]) (by kernel_rfl) (by simp) ?_
        refine (AllReadyH.cons rfl (fun K hK => ?_) AllReadyH.nil)
        go_simp
        refine (no3_any _ _).mono ?_
        rintro e w' ⟨rfl, rfl⟩
        go_wp2_with fail
        refine hK.out _ _ SW5.out (fun hHeld => ?_)
        clear hK K
        try simp only [lay_all]
        clear hHeld
        refine wpAnyH_ready (rs := [20]) (by kernel_rfl) (by simp) ?_
        refine (AllReadyH.cons rfl (fun K hK => ?_) AllReadyH.nil)
        go_simp
        have HRx := hid (HRrW2.out.ch GW5.out (fun _ _ h => h) (fun _ _ h => h))
        refine (HC2.out _ _ HRx.out I2W5.out.1 I2W5.out.2.2).mono ?_
        rintro e W6 ⟨rfl, hr3⟩
        have SW6 := hid (keep6 SW5.out (rch hr3) (fun q hq => by subst hq; exact HXq.out.2) (fun q hq hQ => by subst hq; exact HAb.out.2 hQ))
        have HFin := hid (Two.fin HZzW2.out.1 HZzW2.out.2.1 HZzW2.out.2.2.1 HZzW2.out.2.2.2 HRlW2.out GW5.out hr3)
        clear hr3
        go_wp2_with fail
        refine hK.out _ _ SW6.out (fun hHeld => ?_)
        clear hK K
        try simp only [lay_all]
        refine wpAnyH_take (i := 21) (v := ?_) rfl (by kernel_rfl) (by kernel_rfl) (by kernel_rfl) (fun _ _ _ h => h) (Or.inl ⟨by rfl, ?_⟩) (by assumption) ?_
        rotate_left
        · intro w hSw
          try dsimp only at hSw
          go_simp
          all_goals with_reducible rfl
        try simp only [lay_all]
        refine wpAnyH_take (i := 22) (v := ?_) rfl (by kernel_rfl) (by kernel_rfl) (by kernel_rfl) (fun _ _ _ h => h) (Or.inl ⟨by rfl, ?_⟩) (by assumption) ?_
        rotate_left
        · intro w hSw
          try dsimp only at hSw
          go_simp
          all_goals with_reducible rfl
        try simp only [lay_all]
        refine wpAnyH_done (by kernel_rfl) ?_ _
        refine NoPanic.normal ?_
        go_wp2_with fail
        go_ret
        exact ⟨rfl, p', TPost.from_ HCwW2.out HFin.out, HPB.out⟩
    · go_simp
      refine hK.out _ _ (keep6 SW1.out ((Ch.refl (fun _ => False) W1).alloc _) (fun _ _ h => h) (fun _ _ h => h)) (fun hHeld => ?_)
      clear hK K
      try simp only [lay_all]
      refine anyH_name (fun W' => Ch (fun _ => False) W1 W' ∧ W'.heap[W1.heap.size]? = some (.cells #[.int .i64 n, .int .i64 m] 3 (0, 0)) ∧ W1.heap.size < W'.heap.size) ⟨(Ch.refl _ _).alloc _, heap_new _, by simp⟩ ?_
      rintro W7 ⟨ch, hbk, zz⟩
      have SW7 := hid (keep6 SW1.out ch (fun _ _ h => h) (fun _ _ h => h))
      have TW7 := hid (TW1.out.quiet ch)
      have CW7 := hid (CW1.out.trans ch)
      have I2W7 : Hid (Ints W7 (.slice (some ⟨W1.heap.size, 0, none⟩) 2 2) [n, m] ∧ ¬ Q W1.heap.size ∧ ¬ Qr W1.heap.size) := hid ⟨ints_two hbk, fun h => by have := (TW1.out.z.lt _ h).2; omega, fun h => by have := (TW1.out.r.lt _ h).2; omega⟩
      have I1W7 := hid (And.intro (I1W1.out.1.ch ch (fun _ _ h => h)) I1W1.out.2)
      clear hHeld ch hbk zz
      refine wpAnyH_ready (rs := [9]) (by kernel_rfl) (by simp) ?_
      refine (AllReadyH.cons rfl (fun K hK => ?_) AllReadyH.nil)
      go_simp
      refine (HC1.out _ _ TW7.out.z I1W7.out.1 I1W7.out.2.1).mono ?_
      rintro e W8 ⟨rfl, hz1⟩
      have SW8 := hid (keep6 SW7.out (zch hz1) (fun q hq => by subst hq; exact HXq.out.1) (fun q hq hQ => by subst hq; exact HAb.out.1 hQ))
      have I2W8 := hid (And.intro (I2W7.out.1.chq (zch hz1) (fun h => I2W7.out.2.1 h)) (And.intro trivial I2W7.out.2.2))
      obtain ⟨Q1, z1, r1, d1, f1, c1⟩ := TW7.out.mid hz1
      have HZzW8 := hid (And.intro z1 (And.intro d1 (And.intro f1 c1)))
      have HRrW8 := hid r1
      have HRlW8 := hid TW7.out.r.lt
      have HCwW8 := CW7
      have GW8 := hid (Ch.refl (fun _ => False) W8)
      clear z1 r1 d1 f1 c1 hz1
      go_wp2_with fail
      refine hK.out _ _ SW8.out (fun hHeld => ?_)
      clear hK K
      try simp only [lay_all]
      clear hHeld
      refine wpAnyH_ready (rs := [10]) (by kernel_rfl) (by simp) ?_
      refine (AllReadyH.cons rfl (fun K hK => ?_) AllReadyH.nil)
      go_simp
      refine (no3_any _ _).mono ?_
      rintro e w' ⟨rfl, rfl⟩
      go_wp2_with fail
      refine hK.out _ _ SW8.out (fun hHeld => ?_)
      clear hK K
      try simp only [lay_all]
      clear hHeld
      refine wpAnyH_ready (rs := [20]) (by kernel_rfl) (by simp) ?_
      refine (AllReadyH.cons rfl (fun K hK => ?_) AllReadyH.nil)
      go_simp
      have HRx := hid (HRrW8.out.ch GW8.out (fun _ _ h => h) (fun _ _ h => h))
      refine (HC2.out _ _ HRx.out I2W8.out.1 I2W8.out.2.2).mono ?_
      rintro e W9 ⟨rfl, hr3⟩
      have SW9 := hid (keep6 SW8.out (rch hr3) (fun q hq => by subst hq; exact HXq.out.2) (fun q hq hQ => by subst hq; exact HAb.out.2 hQ))
      have HFin := hid (Two.fin HZzW8.out.1 HZzW8.out.2.1 HZzW8.out.2.2.1 HZzW8.out.2.2.2 HRlW8.out GW8.out hr3)
      clear hr3
      go_wp2_with fail
      refine hK.out _ _ SW9.out (fun hHeld => ?_)
      clear hK K
      try simp only [lay_all]
      refine wpAnyH_take (i := 21) (v := ?_) rfl (by kernel_rfl) (by kernel_rfl) (by kernel_rfl) (fun _ _ _ h => h) (Or.inl ⟨by rfl, ?_⟩) (by assumption) ?_
      rotate_left
      · intro w hSw
        try dsimp only at hSw
        go_simp
        all_goals with_reducible rfl
      try simp only [lay_all]
      refine wpAnyH_take (i := 22) (v := ?_) rfl (by kernel_rfl) (by kernel_rfl) (by kernel_rfl) (fun _ _ _ h => h) (Or.inl ⟨by rfl, ?_⟩) (by assumption) ?_
      rotate_left
      · intro w hSw
        try dsimp only at hSw
        go_simp
        all_goals with_reducible rfl
      try simp only [lay_all]
      refine wpAnyH_done (by kernel_rfl) ?_ _
      refine NoPanic.normal ?_
      go_wp2_with fail
      go_ret
      exact ⟨rfl, p', TPost.from_ HCwW8.out HFin.out, HPB.out⟩
  · go_simp
    refine hK.out _ _ (keep6 SW0.out ((Ch.refl (fun _ => False) W0).alloc _) (fun _ _ h => h) (fun _ _ h => h)) (fun hHeld => ?_)
    clear hK K
    try simp only [lay_all]
    refine anyH_name (fun W' => Ch (fun _ => False) W0 W' ∧ W'.heap[W0.heap.size]? = some (.cells #[.int .i64 n, .int .i64 m] 3 (0, 0)) ∧ W0.heap.size < W'.heap.size) ⟨(Ch.refl _ _).alloc _, heap_new _, by simp⟩ ?_
    rintro W10 ⟨ch, hbk, zz⟩
    have SW10 := hid (keep6 SW0.out ch (fun _ _ h => h) (fun _ _ h => h))
    have TW10 := hid (TW0.out.quiet ch)
    have CW10 := hid (CW0.out.trans ch)
    have I2W10 : Hid (Ints W10 (.slice (some ⟨W0.heap.size, 0, none⟩) 2 2) [n, m] ∧ ¬ Q W0.heap.size ∧ ¬ Qr W0.heap.size) := hid ⟨ints_two hbk, fun h => by have := (TW0.out.z.lt _ h).2; omega, fun h => by have := (TW0.out.r.lt _ h).2; omega⟩
    clear hHeld ch hbk zz
    refine wpAnyH_ready (rs := [8]) (by kernel_rfl) (by simp) ?_
    refine (AllReadyH.cons rfl (fun K hK => ?_) AllReadyH.nil)
    go_simp
    refine hK.out _ _ (keep6 SW10.out ((Ch.refl (fun _ => False) W10).alloc _) (fun _ _ h => h) (fun _ _ h => h)) (fun hHeld => ?_)
    clear hK K
    try simp only [lay_all]
    refine anyH_name (fun W' => Ch (fun _ => False) W10 W' ∧ W'.heap[W10.heap.size]? = some (.cells #[.int .i64 n, .int .i64 m] 3 (0, 0)) ∧ W10.heap.size < W'.heap.size) ⟨(Ch.refl _ _).alloc _, heap_new _, by simp⟩ ?_
    rintro W11 ⟨ch, hbk, zz⟩
    have SW11 := hid (keep6 SW10.out ch (fun _ _ h => h) (fun _ _ h => h))
    have TW11 := hid (TW10.out.quiet ch)
    have CW11 := hid (CW10.out.trans ch)
    have I1W11 : Hid (Ints W11 (.slice (some ⟨W10.heap.size, 0, none⟩) 2 2) [n, m] ∧ ¬ Q W10.heap.size ∧ ¬ Qr W10.heap.size) := hid ⟨ints_two hbk, fun h => by have := (TW10.out.z.lt _ h).2; omega, fun h => by have := (TW10.out.r.lt _ h).2; omega⟩
    have I2W11 := hid (And.intro (I2W10.out.1.ch ch (fun _ _ h => h)) I2W10.out.2)
    clear hHeld ch hbk zz
    refine wpAnyH_ready (rs := [9]) (by kernel_rfl) (by simp) ?_
    refine (AllReadyH.cons rfl (fun K hK => ?_) AllReadyH.nil)
    go_simp
    refine (HC1.out _ _ TW11.out.z I1W11.out.1 I1W11.out.2.1).mono ?_
    rintro e W12 ⟨rfl, hz1⟩
    have SW12 := hid (keep6 SW11.out (zch hz1) (fun q hq => by subst hq; exact HXq.out.1) (fun q hq hQ => by subst hq; exact HAb.out.1 hQ))
    have I2W12 := hid (And.intro (I2W11.out.1.chq (zch hz1) (fun h => I2W11.out.2.1 h)) (And.intro trivial I2W11.out.2.2))
    obtain ⟨Q1, z1, r1, d1, f1, c1⟩ := TW11.out.mid hz1
    have HZzW12 := hid (And.intro z1 (And.intro d1 (And.intro f1 c1)))
    have HRrW12 := hid r1
    have HRlW12 := hid TW11.out.r.lt
    have HCwW12 := CW11
    have GW12 := hid (Ch.refl (fun _ => False) W12)
    clear z1 r1 d1 f1 c1 hz1
    go_wp2_with fail
    refine hK.out _ _ SW12.out (fun hHeld => ?_)
    clear hK K
    try simp only [lay_all]
    clear hHeld
    refine wpAnyH_ready (rs := [10]) (by kernel_rfl) (by simp) ?_
    refine (AllReadyH.cons rfl (fun K hK => ?_) AllReadyH.nil)
    go_simp
    refine (no3_any _ _).mono ?_
    rintro e w' ⟨rfl, rfl⟩
    go_wp2_with fail
    refine hK.out _ _ SW12.out (fun hHeld => ?_)
    clear hK K
    try simp only [lay_all]
    clear hHeld
    refine wpAnyH_ready (rs := [20]) (by kernel_rfl) (by simp) ?_
    refine (AllReadyH.cons rfl (fun K hK => ?_) AllReadyH.nil)
    go_simp
    have HRx := hid (HRrW12.out.ch GW12.out (fun _ _ h => h) (fun _ _ h => h))
    refine (HC2.out _ _ HRx.out I2W12.out.1 I2W12.out.2.2).mono ?_
    rintro e W13 ⟨rfl, hr3⟩
    have SW13 := hid (keep6 SW12.out (rch hr3) (fun q hq => by subst hq; exact HXq.out.2) (fun q hq hQ => by subst hq; exact HAb.out.2 hQ))
    have HFin := hid (Two.fin HZzW12.out.1 HZzW12.out.2.1 HZzW12.out.2.2.1 HZzW12.out.2.2.2 HRlW12.out GW12.out hr3)
    clear hr3
    go_wp2_with fail
    refine hK.out _ _ SW13.out (fun hHeld => ?_)
    clear hK K
    try simp only [lay_all]
    refine wpAnyH_take (i := 21) (v := ?_) rfl (by kernel_rfl) (by kernel_rfl) (by kernel_rfl) (fun _ _ _ h => h) (Or.inl ⟨by rfl, ?_⟩) (by assumption) ?_
    rotate_left
    · intro w hSw
      try dsimp only at hSw
      go_simp
      all_goals with_reducible rfl
    try simp only [lay_all]
    refine wpAnyH_take (i := 22) (v := ?_) rfl (by kernel_rfl) (by kernel_rfl) (by kernel_rfl) (fun _ _ _ h => h) (Or.inl ⟨by rfl, ?_⟩) (by assumption) ?_
    rotate_left
    · intro w hSw
      try dsimp only at hSw
      go_simp
      all_goals with_reducible rfl
    try simp only [lay_all]
    refine wpAnyH_done (by kernel_rfl) ?_ _
    refine NoPanic.normal ?_
    go_wp2_with fail
    go_ret
    exact ⟨rfl, p', TPost.from_ HCwW12.out HFin.out, HPB.out⟩

end Go.Proofs.Ytadhibemadgcoaa
