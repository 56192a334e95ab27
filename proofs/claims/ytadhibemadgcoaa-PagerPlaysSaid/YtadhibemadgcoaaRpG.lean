/- The reference's pager: Pin. Conditions: not more than a million pins. -/
import Derived.Test.YtadhibemadgcoaaRpF
namespace Go.Proofs.Ytadhibemadgcoaa
open Go.RowKit

theorem Try.info3 : (Try.prog.info? 3).map (fun i => (i.zero, i.size, i.bytes)) = some (some (.int .i64 0), 1, 8) := by kernel_rfl
theorem pinV_length (l : List Nat) : (pinV l).length = l.length := by simp [pinV]
/-- The pins alone have turned. -/
theorem RzI.pinned {w0 w w' : World} {rp rq ib fb : Nat} {Pv v' : Value} {p : Pg} {F : List Int} {M Q : Nat → Prop} (h : RzI w0 w rp rq ib fb Pv p F M Q) (pins : List Nat) (ops : Nat) (hpn : ∀ g ∈ pins, g ≤ 4611686018427387904)
    (hc : Ch (fun k => k = rp ∨ Pv.ownBlock = some k) w w')
    (hp : w'.heap[rp]? = some (.cells #[.pointer (some ⟨rq, 0, none⟩), .int .i64 (p.gen : Int), .string ⟨p.root.toArray⟩, .slice (some ⟨ib, 0, none⟩) p.pages.length p.pages.length, .slice (some ⟨fb, 0, none⟩) p.pages.length p.pages.length, v', .bool p.dead] 116 (0, 0)))
    (hrow : w'.ownsRow 0 3 1 v' pins.length (pinV pins)) (hv : ∀ k, v'.ownBlock = some k → Pv.ownBlock = some k ∨ w.heap.size ≤ k) : RPost w0 w rp rq { p with pins := pins, ops := ops } Q w' := by
  have i := h.inn
  obtain ⟨ne1, ne2, ne3⟩ := i.ne
  have z := hc.size
  have hPQ : ∀ k, (k = rp ∨ Pv.ownBlock = some k) → Q k := fun k hk => by
    rcases hk with rfl | hk
    · exact h.qr
    · exact h.qp k hk
  have fr : ∀ k, k < w.heap.size → k ≠ rp → Pv.ownBlock ≠ some k → w'.heap[k]? = w.heap[k]? := fun k hk h1 h2 => hc.block k hk (fun e => e.elim h1 h2)
  have hi := (h.lt _ h.qi).2
  have hf := (h.lt _ h.qf).2
  refine ⟨fun k => Q k ∨ (w.heap.size ≤ k ∧ k < w'.heap.size), ⟨ib, fb, v', F, M, ⟨⟨i.n1, i.n2, i.gen, i.pg, hpn, hp, (fr _ hi (fun e => ne1 e.symm) i.e2).trans i.hi, (fr _ hf (fun e => ne2 e.symm) i.e3).trans i.hf, i.fl, i.fk, i.z0, hrow, i.e1, fun e => ?_, fun e => ?_⟩, h.disk.ch hc (fun k hk e => ?_), h.len, .inl h.qr, .inl h.qi, .inl h.qf, fun k hk => ?_, fun k hk => .inl (h.qm k hk), h.mr, h.mi, h.mf, fun k hk hm => ?_, fun k hk => ?_, h.base.then hc (fun k hk e => ?_)⟩⟩, fun k hk => ?_, hc.mono (fun k _ hm => hPQ k hm)⟩
  · rcases hv _ e with e | e
    · exact i.e2 e
    · omega
  · rcases hv _ e with e | e
    · exact i.e3 e
    · omega
  · rcases e with rfl | e
    · exact h.mr hk
    · exact h.mp k e hk
  · rcases hv k hk with e | e
    · exact .inl (h.qp k e)
    · exact .inr ⟨e, (hrow.lt k hk).2⟩
  · rcases hv k hk with e | e
    · exact h.mp k e hm
    · have := (h.lt k (h.qm k hm)).2; omega
  · have := h.base.size
    rcases hk with hk | hk
    · have := h.lt k hk; omega
    · omega
  · have := (h.lt k (hPQ k e)).1
    omega
  · rcases hk with hk | hk
    · exact .inl hk
    · exact .inr hk.1

section
variable {w0 : World} {rp rq : Nat} {p : Pg} {Q : Nat → Prop}
set_option maxRecDepth 20000 in
set_option maxHeartbeats 4000000 in
theorem rpin_any (w : World) (h : RZ w0 w rp rq p Q) (hpl : p.pins.length ≤ 1000000) : Calls Try.prog 109 #[.pointer (some ⟨rp, 0, none⟩)] w fun e w' => e = .returned (.int .i64 (p.gen : Int)) ∧ RPost w0 w rp rq (pinP p) Q w' := by
  obtain ⟨ib, fb, Pv, F, M, h1⟩ := h
  have HX := hid h1
  obtain ⟨pa, pc, rfl⟩ := owns_form h1.inn.hP
  have c1 := cell_blk h1.inn.hp 1
  have c5 := cell_blk h1.inn.hp 5
  have f5 := frozen_blk h1.inn.hp 5
  simp at c1 c5
  have hrpz := blk_lt h1.inn.hp
  obtain ⟨n, HN⟩ : ∃ n, Hid (p.pins.length = n) := ⟨_, hid rfl⟩
  obtain ⟨g, HG⟩ : ∃ g, Hid (p.gen = g) := ⟨_, hid rfl⟩
  have hgen := h1.inn.gen
  have hown : (w.alloc (.cells #[.int .i64 (g : Int)] 3)).drew.ownsRow 0 3 1 (.slice pa p.pins.length pc) p.pins.length (pinV p.pins) :=
    ownsRow_frame h1.inn.hP fun k hk => Below.heap_alloc _ _ _ (h1.lt k (h1.qp k hk)).2
  obtain ⟨v2, w4, hrun2, hown4, hch4, hv2⟩ := run_append_own2 (P := Try.prog) (w.alloc (.cells #[.int .i64 (g : Int)] 3)).drew 90 90 3 (.int .i64 0) 1 8 Try.underlying90 Try.info3 rfl (by omega) _ _ _ hown
    ⟨w.heap.size, 0, none⟩ 1 1 [.int .i64 (g : Int)] rfl (by
      intro j u hu
      rw [add_plain, cell_blk (heap_drew (heap_new _)), Nat.zero_add]
      rcases j with _ | j
      · simpa using hu
      · simp at hu) (by intro u hu; simp at hu; subst hu; rfl) (by unfold maxLen; omega) (by omega)
  obtain ⟨g2, cap2, rfl, hgz⟩ := slice_of_owns hown4 (by omega)
  have hne3 := h1.inn.ne.2.2
  have hqw4 := hch4.keep (heap_drew (heap_old h1.inn.hp (.cells #[.int .i64 (g : Int)] 3))) hne3
  have hq4 := cell_blk hqw4 5
  have hf4 := frozen_blk hqw4 5
  have hq1 := cell_blk hqw4 1
  simp at hq4 hq1
  have hnq : ¬ rp = w.heap.size := by omega
  have fin : Hid (∀ w5, w5 = w4.setCell ⟨rp, 5, none⟩ (.slice (some ⟨g2, 0, none⟩) (p.pins.length + 1) cap2) → RPost w0 w rp rq (pinP p) Q w5 ∧ w5.cell? ⟨rp, 1, none⟩ = some (.int .i64 (p.gen : Int))) := hid (by
    rintro w5 rfl
    have hgq : g2 ≠ rp := by
      rcases hv2 with e | e
      · exact fun h => hne3 (by rw [← e, h]; rfl)
      · have := e g2 rfl; simp at this; omega
    have hne : ∀ k, (Value.slice (some ⟨g2, 0, none⟩) (p.pins.length + 1) cap2).ownBlock = some k → k ≠ rp := fun k hk => by
      obtain rfl : g2 = k := by simpa [Value.ownBlock] using hk
      exact hgq
    have hcc : Ch (fun k => k = rp ∨ (Value.slice pa p.pins.length pc).ownBlock = some k) w (w4.setCell ⟨rp, 5, none⟩ (.slice (some ⟨g2, 0, none⟩) (p.pins.length + 1) cap2)) := by
      have c1 : Ch (fun k => k = rp ∨ (Value.slice pa p.pins.length pc).ownBlock = some k) w (w.alloc (.cells #[.int .i64 (g : Int)] 3)).drew := ((Ch.refl _ w).alloc _).drew
      have c2 := c1.then hch4 (fun i _ e => .inr e)
      exact c2.setCell (fun _ => .inl rfl) _
    have hhp := heap_set hqw4 5 (.slice (some ⟨g2, 0, none⟩) (p.pins.length + 1) cap2)
    refine ⟨HX.out.pinned (p.pins ++ [p.gen]) (p.ops + 1) (fun x hx => ?_) hcc (by rw [hhp]; rfl) ?_ (fun k hk => ?_), ?_⟩
    · rcases List.mem_append.1 hx with hx | hx
      · exact HX.out.inn.pn x hx
      · simp at hx; subst hx; exact hgen
    · have e : pinV (p.pins ++ [p.gen]) = pinV p.pins ++ [.int .i64 (g : Int)] := by rw [← HG.out]; simp [pinV]
      rw [e, List.length_append]
      exact ownsRow_frame hown4 fun k hk => Below.heap_setCell _ _ _ _ (hne k hk)
    · rcases hv2 with e | e
      · exact .inl (by rw [← e]; exact hk)
      · have := e k hk
        simp at this
        exact .inr (by omega)
    · rw [cell_blk hhp]; rfl)
  rw [HG.out] at c1 fin ⊢
  rw [HG.out] at hq1
  rw [HN.out] at c5 hq4 hrun2 fin
  have HR2 := hid hrun2
  clear h1 hown hrun2 hown4 hch4 hv2 hqw4 hgz hne3
  go_enter Try.func109, Try.ntmps109
  go_wp2_with fail
  go_region_law (refine step_append_run rfl (.tmp 7) (.tmp 12) 90 90 rfl _ _ HR2.out ?_)
  all_goals (
    have hfin := (fin.out _ rfl).2
    go_wp2
    go_ret
    exact ⟨rfl, (fin.out _ rfl).1⟩)
end

end Go.Proofs.Ytadhibemadgcoaa
