/- The law's x while only one of the two disks has been called. Conditions: as each theorem says. -/
import Derived.Test.YtadhibemadgcoaaBoD
import Derived.Test.YtadhibemadgcoaaBoO
namespace Go.Proofs.Ytadhibemadgcoaa
open Go.RowKit

/-- The law's x: the pager's side at p, the reference's at pr. -/
structure Xh (w0 w : World) (xb dp rq : Nat) (po ro : Option Addr) (p pr : Pg) (Q Qr : Nat → Prop) : Prop where
  hx : w.heap[xb]? = some (.cells #[.pointer (some ⟨dp, 0, none⟩), .pointer po, .pointer (some ⟨rq, 0, none⟩), .pointer ro] 110 (0, 0))
  xq : ¬ Q xb
  xr : ¬ Qr xb
  x0 : w0.heap.size ≤ xb
  dj : ∀ k, Q k → ¬ Qr k
  s1 : (po = none ∧ DQ w0 w dp p.d Q) ∨ ∃ pp, po = some ⟨pp, 0, none⟩ ∧ PZ w0 w pp dp p Q
  s2 : (ro = none ∧ RQ w0 w rq pr.d Qr) ∨ ∃ rp, ro = some ⟨rp, 0, none⟩ ∧ RZ w0 w rp rq pr Qr
  al : po = none ↔ ro = none
theorem Xs.xh {w0 w : World} {xb dp rq : Nat} {po ro : Option Addr} {p : Pg} {Q Qr : Nat → Prop} (h : Xs w0 w xb dp rq po ro p Q Qr) : Xh w0 w xb dp rq po ro p p Q Qr := by
  rcases h.st with ⟨rfl, rfl, h1, h2⟩ | ⟨pp, rp, rfl, rfl, h3⟩
  · exact ⟨h.hx, h.xq, h.xr, h.x0, h.dj, .inl ⟨rfl, h1⟩, .inl ⟨rfl, h2⟩, by simp⟩
  · exact ⟨h.hx, h.xq, h.xr, h.x0, h.dj, .inr ⟨pp, rfl, h3.z⟩, .inr ⟨rp, rfl, h3.r⟩, by simp⟩
theorem Xh.xs {w0 w : World} {xb dp rq : Nat} {po ro : Option Addr} {p : Pg} {Q Qr : Nat → Prop} (h : Xh w0 w xb dp rq po ro p p Q Qr) : Xs w0 w xb dp rq po ro p Q Qr := by
  refine ⟨h.hx, h.xq, h.xr, h.x0, h.dj, ?_⟩
  rcases h.s1 with ⟨h1, h2⟩ | ⟨pp, h1, h2⟩
  · have hn := h.al.1 h1
    rcases h.s2 with ⟨h3, h4⟩ | ⟨rp, h3, h4⟩
    · exact .inl ⟨h1, h3, h2, h4⟩
    · rw [hn] at h3; cases h3
  · rcases h.s2 with ⟨h3, h4⟩ | ⟨rp, h3, h4⟩
    · have hn := h.al.2 h3
      rw [hn] at h1; cases h1
    · exact .inr ⟨pp, rp, h1, h3, ⟨h2, h4, h.dj⟩⟩
section
variable {w0 w w' : World} {xb dp rq : Nat} {po ro : Option Addr} {p pr : Pg} {Q Q' Qr Qr' : Nat → Prop}
theorem Xh.ltq (h : Xh w0 w xb dp rq po ro p pr Q Qr) : (∀ k, Q k → w0.heap.size ≤ k ∧ k < w.heap.size) ∧ (∀ k, Qr k → w0.heap.size ≤ k ∧ k < w.heap.size) ∧ Ch (fun _ => False) w0 w := by
  refine ⟨?_, ?_, ?_⟩
  · rcases h.s1 with ⟨_, M, F, _, _, h3, _⟩ | ⟨pp, _, h2⟩
    · exact h3
    · exact h2.lt
  · rcases h.s2 with ⟨_, M, _, _, h3, _⟩ | ⟨rp, _, h2⟩
    · exact h3
    · exact h2.lt
  · rcases h.s1 with ⟨_, M, F, _, _, _, h4⟩ | ⟨pp, _, h2⟩
    · exact h4
    · exact h2.base
theorem Xh.quiet (h : Xh w0 w xb dp rq po ro p pr Q Qr) (hc : Ch (fun _ => False) w w') : Xh w0 w' xb dp rq po ro p pr Q Qr := by
  refine ⟨(hc.block xb (blk_lt h.hx) (fun h => h)).trans h.hx, h.xq, h.xr, h.x0, h.dj, ?_, ?_, h.al⟩
  · rcases h.s1 with ⟨a, h1⟩ | ⟨pp, a, h1⟩
    · exact .inl ⟨a, h1.ch hc (fun _ _ h => h) (fun _ _ h => h)⟩
    · exact .inr ⟨pp, a, h1.ch hc (fun _ _ h => h) (fun _ _ h => h)⟩
  · rcases h.s2 with ⟨a, h1⟩ | ⟨rp, a, h1⟩
    · exact .inl ⟨a, h1.ch hc (fun _ _ h => h) (fun _ _ h => h)⟩
    · exact .inr ⟨rp, a, h1.ch hc (fun _ _ h => h) (fun _ _ h => h)⟩
/-- The pager's side has turned. -/
theorem Xh.left (h : Xh w0 w xb dp rq po ro p pr Q Qr) {p' : Pg} (s1 : (po = none ∧ DQ w0 w' dp p'.d Q') ∨ ∃ pp, po = some ⟨pp, 0, none⟩ ∧ PZ w0 w' pp dp p' Q') (hf : Fresh w Q Q') (hc : Ch Q w w') : Xh w0 w' xb dp rq po ro p' pr Q' Qr := by
  obtain ⟨l1, l2, l3⟩ := h.ltq
  have hxl := blk_lt h.hx
  refine ⟨(hc.block xb hxl h.xq).trans h.hx, fun hq => ?_, h.xr, h.x0, fun k hk hr => ?_, s1, ?_, h.al⟩
  · rcases hf xb hq with h1 | h1
    · exact h.xq h1
    · omega
  · rcases hf k hk with h1 | h1
    · exact h.dj k h1 hr
    · have := (l2 k hr).2; omega
  · have hs : ∀ k, Qr k → ¬ Q k := fun k hr hq => h.dj k hq hr
    have h0 : ∀ k, k < w0.heap.size → ¬ Q k := fun k hk hq => by have := (l1 k hq).1; omega
    rcases h.s2 with ⟨a, h1⟩ | ⟨rp, a, h1⟩
    · exact .inl ⟨a, h1.ch hc hs h0⟩
    · exact .inr ⟨rp, a, h1.ch hc hs h0⟩
theorem Xh.right (h : Xh w0 w xb dp rq po ro p pr Q Qr) {p' : Pg} (s2 : (ro = none ∧ RQ w0 w' rq p'.d Qr') ∨ ∃ rp, ro = some ⟨rp, 0, none⟩ ∧ RZ w0 w' rp rq p' Qr') (hf : Fresh w Qr Qr') (hc : Ch Qr w w') : Xh w0 w' xb dp rq po ro p p' Q Qr' := by
  obtain ⟨l1, l2, l3⟩ := h.ltq
  have hxl := blk_lt h.hx
  refine ⟨(hc.block xb hxl h.xr).trans h.hx, h.xq, fun hq => ?_, h.x0, fun k hk hr => ?_, ?_, s2, h.al⟩
  · rcases hf xb hq with h1 | h1
    · exact h.xr h1
    · omega
  · rcases hf k hr with h1 | h1
    · exact h.dj k hk h1
    · have := (l1 k hk).2; omega
  · have hs : ∀ k, Q k → ¬ Qr k := h.dj
    have h0 : ∀ k, k < w0.heap.size → ¬ Qr k := fun k hk hq => by have := (l2 k hq).1; omega
    rcases h.s1 with ⟨a, h1⟩ | ⟨pp, a, h1⟩
    · exact .inl ⟨a, h1.ch hc hs h0⟩
    · exact .inr ⟨pp, a, h1.ch hc hs h0⟩
/-- The disk, to be called. -/
theorem Xh.getD (h : Xh w0 w xb dp rq po ro p pr Q Qr) : ∃ M F, DiskAt w dp p.d M F ∧ (∀ k, F k → Q k) ∧ (∀ k, M k → F k) ∧
    ∀ M' F' d' w', DiskAt w' dp d' M' F' → d'.L.length = p.d.L.length → Fresh w F F' → Ch M w w' → ∃ Q', Xh w0 w' xb dp rq po ro { p with d := d' } pr Q' Qr ∧ Ch Q w w' := by
  rcases h.s1 with ⟨a, M, F, h1, h2, h3, h4⟩ | ⟨pp, a, h1⟩
  · refine ⟨M, F, h1, h2, (disk_ltF h1).2, fun M' F' d' w' k1 _ k3 k4 => ?_⟩
    have hcq : Ch Q w w' := k4.mono (fun k _ hm => h2 k ((disk_ltF h1).2 k hm))
    refine ⟨fun k => Q k ∨ (w.heap.size ≤ k ∧ k < w'.heap.size), h.left (p' := { p with d := d' }) (.inl ⟨a, M', F', k1, fun k hk => ?_, fun k hk => ?_, h4.then hcq (fun i hi hq => by have := (h3 i hq).1; omega)⟩) (fun k hk => hk.imp id (fun h => h.1)) hcq, hcq⟩
    · rcases k3 k hk with h | h
      · exact .inl (h2 k h)
      · exact .inr ⟨h, (disk_ltF k1).1 k hk⟩
    · have := hcq.size
      have := h4.size
      rcases hk with hk | hk
      · have := h3 k hk; omega
      · omega
  · have hz := h1
    obtain ⟨gb, mb, M, F, O, g1, g2, g3, g4, g5⟩ := h1
    refine ⟨M, F, g1.2.1, g2, (disk_ltF g1.2.1).2, fun M' F' d' w' k1 k2 k3 k4 => ?_⟩
    have hcq : Ch Q w w' := k4.mono (fun k _ hm => g2 k ((disk_ltF g1.2.1).2 k hm))
    obtain ⟨Q', j1, j2, j3⟩ := ZPost.mk' hz g2 g3 (g1.disk k4 k1 k2 k3) k3 hcq
    exact ⟨Q', h.left (.inr ⟨pp, a, j1⟩) j2 j3, j3⟩
theorem Xh.getR (h : Xh w0 w xb dp rq po ro p pr Q Qr) : ∃ M, RAt w rq pr.d M ∧ (∀ k, M k → Qr k) ∧
    ∀ M' d' w', RAt w' rq d' M' → d'.L.length = pr.d.L.length → Fresh w M M' → Ch M w w' → ∃ Qr', Xh w0 w' xb dp rq po ro p { pr with d := d' } Q Qr' ∧ Ch Qr w w' := by
  rcases h.s2 with ⟨a, M, h1, h2, h3, h4⟩ | ⟨rp, a, h1⟩
  · refine ⟨M, h1, h2, fun M' d' w' k1 _ k3 k4 => ?_⟩
    have hcq : Ch Qr w w' := k4.mono (fun k _ hm => h2 k hm)
    refine ⟨fun k => Qr k ∨ (w.heap.size ≤ k ∧ k < w'.heap.size), h.right (p' := { pr with d := d' }) (.inl ⟨a, M', k1, fun k hk => ?_, fun k hk => ?_, h4.then hcq (fun i hi hq => by have := (h3 i hq).1; omega)⟩) (fun k hk => hk.imp id (fun h => h.1)) hcq, hcq⟩
    · rcases k3 k hk with h | h
      · exact .inl (h2 k h)
      · exact .inr ⟨h, k1.lt k hk⟩
    · have := hcq.size
      have := h4.size
      rcases hk with hk | hk
      · have := h3 k hk; omega
      · omega
  · obtain ⟨ib, fb, Pv, F, M, g⟩ := h1
    refine ⟨M, g.disk, g.qm, fun M' d' w' k1 k2 k3 k4 => ?_⟩
    obtain ⟨Q', j1, j2, j3⟩ := g.disked k4 k1 k2 k3
    exact ⟨Q', h.right (.inr ⟨rp, a, j1⟩) j2 j3, j3⟩
end
/-- More may be held. -/
theorem anyH_more {P : Program} {md : Region.Mode} {ops : Array Oper} {Q : Exit → Act → World → Prop} {S S' : World → Prop} (hS : ∀ w, S' w → S w) : ∀ (fuel : Nat) (listed : Array Bool) (a : Act) (w : World), wpAnyH P md ops Q S' fuel listed a w → wpAnyH P md ops Q S fuel listed a w
  | 0, _, _, _, h => h
  | fuel + 1, _, _, _, h => ⟨h.1, fun i hi => wpOp_mono (fun a' w' h' => ⟨hS _ h'.1, anyH_more hS fuel _ a' w' h'.2⟩) (h.2 i hi)⟩
theorem rz_three {w0 w : World} {rp rq : Nat} {p : Pg} {Q : Nat → Prop} (h : RZ w0 w rp rq p Q) : w.cell? ⟨rp, 1, none⟩ = some (.int .i64 (p.gen : Int)) ∧ w.cell? ⟨rp, 2, none⟩ = some (.string ⟨p.root.toArray⟩) ∧ Q rp ∧ rp < w.heap.size := by
  obtain ⟨ib, fb, Pv, F, M, h⟩ := h
  refine ⟨?_, ?_, h.qr, blk_lt h.inn.hp⟩ <;> (rw [cell_blk h.inn.hp]; simp)
theorem PB.open_ {p : Pg} {d : Dk} {n k : Nat} (h : Pl d n k) (hd : p.d = d) (hp : p.pins = []) (ho : p.ops = 0) : PB p k :=
  ⟨by rw [hd]; exact ⟨rfl, h.steps, h.wait⟩, by rw [hp]; exact Nat.zero_le _, by rw [ho]; exact Nat.zero_le _⟩

end Go.Proofs.Ytadhibemadgcoaa
