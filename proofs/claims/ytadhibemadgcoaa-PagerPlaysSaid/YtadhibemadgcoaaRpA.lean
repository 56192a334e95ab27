/- The reference's pager: how it lies in memory; its small calls. Conditions: as each theorem says. -/
import Derived.Test.YtadhibemadgcoaaDiskY
import Derived.Test.YtadhibemadgcoaaPgThree
namespace Go.Proofs.Ytadhibemadgcoaa
open Go.RowKit

def iV (l : List Int) : Array Value := (l.map (Value.int .i64)).toArray
def isL (l : List (Nat × Nat)) : List Int := l.map fun x => (x.1 : Int)
def pinV (l : List Nat) : List Value := l.map fun (g : Nat) => .int .i64 (g : Int)
theorem iV_get (l : List Int) {i : Nat} {x : Int} (h : l[i]? = some x) : (iV l)[i]? = some (.int .i64 x) := by
  simp [iV, h]
theorem iV_set (l : List Int) (i : Nat) (x : Int) : (iV l).setIfInBounds i (.int .i64 x) = iV (l.set i x) := by
  simp [iV, List.map_set]
theorem isL_set (l : List (Nat × Nat)) (i : Nat) (x : Nat × Nat) : isL (l.set i x) = (isL l).set i (x.1 : Int) := by simp [isL, List.map_set]
theorem isL_get {l : List (Nat × Nat)} {i : Nat} {x : Nat × Nat} (h : l[i]? = some x) : (isL l)[i]? = some (x.1 : Int) := by simp [isL, h]

/-- How a reference's pager lies in memory: the rows of states and of what is waited for (F), the pins' row. -/
structure RpIn (w : World) (rp rq ib fb : Nat) (Pv : Value) (p : Pg) (F : List Int) : Prop where
  n1 : 4 ≤ p.pages.length
  n2 : p.pages.length ≤ 4096
  gen : p.gen ≤ 4611686018427387904
  pg : ∀ x ∈ p.pages, x.2 ≤ 4611686018427387904
  pn : ∀ g ∈ p.pins, g ≤ 4611686018427387904
  hp : w.heap[rp]? = some (.cells #[.pointer (some ⟨rq, 0, none⟩), .int .i64 (p.gen : Int), .string ⟨p.root.toArray⟩, .slice (some ⟨ib, 0, none⟩) p.pages.length p.pages.length, .slice (some ⟨fb, 0, none⟩) p.pages.length p.pages.length, Pv, .bool p.dead] 116 (0, 0))
  hi : w.heap[ib]? = some (.cells (iV (isL p.pages)) 3 (0, 0))
  hf : w.heap[fb]? = some (.cells (iV F) 3 (0, 0))
  fl : F.length = p.pages.length
  fk : ∀ (i : Nat) (x : Nat × Nat), p.pages[i]? = some x → x.1 = 4 → F[i]? = some (x.2 : Int)
  z0 : ∀ (i : Nat) (x : Nat × Nat), i < 2 → p.pages[i]? = some x → x.1 = 0
  hP : w.ownsRow 0 3 1 Pv p.pins.length (pinV p.pins)
  e1 : ib ≠ fb
  e2 : Pv.ownBlock ≠ some ib
  e3 : Pv.ownBlock ≠ some fb
theorem RpIn.ne {w : World} {rp rq ib fb : Nat} {Pv : Value} {p : Pg} {F : List Int} (h : RpIn w rp rq ib fb Pv p F) : rp ≠ ib ∧ rp ≠ fb ∧ Pv.ownBlock ≠ some rp := by
  refine ⟨fun e => ?_, fun e => ?_, fun e => ?_⟩
  · have := h.hp.symm.trans (e ▸ h.hi)
    simp only [Option.some.injEq, Obj.cells.injEq] at this
    exact absurd this.2.1 (by decide)
  · have := h.hp.symm.trans (e ▸ h.hf)
    simp only [Option.some.injEq, Obj.cells.injEq] at this
    exact absurd this.2.1 (by decide)
  · rcases h.hP.2 with ⟨rfl, _⟩ | ⟨g, c, cur, rfl, _, hg, _⟩
    · cases e
    · have e' : g = rp := by simpa [Value.ownBlock] using e
      subst e'
      have := h.hp.symm.trans hg
      simp only [Option.some.injEq, Obj.cells.injEq] at this
      exact absurd this.2.1 (by decide)
/-- The reference's pager p and its blocks Q, all new since w0; M: its disk's. -/
structure RzI (w0 w : World) (rp rq ib fb : Nat) (Pv : Value) (p : Pg) (F : List Int) (M Q : Nat → Prop) : Prop where
  inn : RpIn w rp rq ib fb Pv p F
  disk : RAt w rq p.d M
  len : p.pages.length = p.d.L.length
  qr : Q rp
  qi : Q ib
  qf : Q fb
  qp : ∀ k, Pv.ownBlock = some k → Q k
  qm : ∀ k, M k → Q k
  mr : ¬ M rp
  mi : ¬ M ib
  mf : ¬ M fb
  mp : ∀ k, Pv.ownBlock = some k → ¬ M k
  lt : ∀ k, Q k → w0.heap.size ≤ k ∧ k < w.heap.size
  base : Ch (fun _ => False) w0 w
def RZ (w0 w : World) (rp rq : Nat) (p : Pg) (Q : Nat → Prop) : Prop := ∃ ib fb Pv F M, RzI w0 w rp rq ib fb Pv p F M Q
def RPost (w0 w : World) (rp rq : Nat) (p : Pg) (Q : Nat → Prop) (w' : World) : Prop := ∃ Q', RZ w0 w' rp rq p Q' ∧ Fresh w Q Q' ∧ Ch Q w w'
theorem RZ.base {w0 w : World} {rp rq : Nat} {p : Pg} {Q : Nat → Prop} (h : RZ w0 w rp rq p Q) : Ch (fun _ => False) w0 w := by obtain ⟨_, _, _, _, _, h⟩ := h; exact h.base
theorem RZ.lt {w0 w : World} {rp rq : Nat} {p : Pg} {Q : Nat → Prop} (h : RZ w0 w rp rq p Q) : ∀ k, Q k → w0.heap.size ≤ k ∧ k < w.heap.size := by obtain ⟨_, _, _, _, _, h⟩ := h; exact h.lt
theorem RzI.ch {w0 w w' : World} {rp rq ib fb : Nat} {Pv : Value} {p : Pg} {F : List Int} {M Q S : Nat → Prop} (h : RzI w0 w rp rq ib fb Pv p F M Q) (hc : Ch S w w') (hs : ∀ k, Q k → ¬ S k) (h0 : ∀ k, k < w0.heap.size → ¬ S k) : RzI w0 w' rp rq ib fb Pv p F M Q := by
  have fr : ∀ k, Q k → w'.heap[k]? = w.heap[k]? := fun k hk => hc.block k (h.lt k hk).2 (hs k hk)
  have i := h.inn
  exact ⟨⟨i.n1, i.n2, i.gen, i.pg, i.pn, (fr _ h.qr).trans i.hp, (fr _ h.qi).trans i.hi, (fr _ h.qf).trans i.hf, i.fl, i.fk, i.z0, ownsRow_frame i.hP (fun k hk => fr k (h.qp k hk)), i.e1, i.e2, i.e3⟩, h.disk.ch hc (fun k hk => hs k (h.qm k hk)), h.len, h.qr, h.qi, h.qf, h.qp, h.qm, h.mr, h.mi, h.mf, h.mp, fun k hk => ⟨(h.lt k hk).1, Nat.lt_of_lt_of_le (h.lt k hk).2 hc.size⟩, h.base.then hc (fun i hi hk => h0 i hi hk)⟩
theorem RZ.ch {w0 w w' : World} {rp rq : Nat} {p : Pg} {Q S : Nat → Prop} (h : RZ w0 w rp rq p Q) (hc : Ch S w w') (hs : ∀ k, Q k → ¬ S k) (h0 : ∀ k, k < w0.heap.size → ¬ S k) : RZ w0 w' rp rq p Q := by
  obtain ⟨ib, fb, Pv, F, M, h⟩ := h
  exact ⟨ib, fb, Pv, F, M, h.ch hc hs h0⟩
theorem RZ.post {w0 w w' : World} {rp rq : Nat} {p : Pg} {Q : Nat → Prop} (h : RZ w0 w rp rq p Q) (hc : Ch (fun _ => False) w w') : RPost w0 w rp rq p Q w' :=
  ⟨Q, h.ch hc (fun _ _ h => h) (fun _ _ h => h), Fresh.refl _ _, hc.mono (fun _ _ h => h.elim)⟩
theorem RPost.trans {w0 w1 w2 w3 : World} {rp rq : Nat} {p : Pg} {Q Q1 : Nat → Prop} (h1 : Fresh w1 Q Q1) (hc : Ch Q w1 w2) (h : RPost w0 w2 rp rq p Q1 w3) : RPost w0 w1 rp rq p Q w3 := by
  obtain ⟨Q2, k1, k2, k3⟩ := h
  refine ⟨Q2, k1, fun k hk => ?_, hc.then k3 (fun i hi h => ?_)⟩
  · rcases k2 k hk with h | h
    · exact h1 k h
    · have := hc.size; exact .inr (by omega)
  · rcases h1 i h with h | h
    · exact h
    · omega
/-- Its own six cells and rows turned, the disk and the pins not. -/
theorem RzI.turn {w0 w w' : World} {rp rq ib fb : Nat} {Pv : Value} {p : Pg} {F : List Int} {M Q : Nat → Prop} (h : RzI w0 w rp rq ib fb Pv p F M Q) (p' : Pg) (F' : List Int) (hd : p'.d = p.d) (hpi : p'.pins = p.pins)
    (hc : Ch Q w w') (hk : ∀ k, k ≠ rp → k ≠ ib → k ≠ fb → w'.heap[k]? = w.heap[k]?) (hn : p'.pages.length = p.pages.length) (hgen : p'.gen ≤ 4611686018427387904) (hpg : ∀ x ∈ p'.pages, x.2 ≤ 4611686018427387904)
    (hp : w'.heap[rp]? = some (.cells #[.pointer (some ⟨rq, 0, none⟩), .int .i64 (p'.gen : Int), .string ⟨p'.root.toArray⟩, .slice (some ⟨ib, 0, none⟩) p.pages.length p.pages.length, .slice (some ⟨fb, 0, none⟩) p.pages.length p.pages.length, Pv, .bool p'.dead] 116 (0, 0)))
    (hi : w'.heap[ib]? = some (.cells (iV (isL p'.pages)) 3 (0, 0))) (hf : w'.heap[fb]? = some (.cells (iV F') 3 (0, 0))) (fl : F'.length = p.pages.length)
    (fk : ∀ (i : Nat) (x : Nat × Nat), p'.pages[i]? = some x → x.1 = 4 → F'[i]? = some (x.2 : Int)) (z0 : ∀ (i : Nat) (x : Nat × Nat), i < 2 → p'.pages[i]? = some x → x.1 = 0) : RzI w0 w' rp rq ib fb Pv p' F' M Q := by
  have i := h.inn
  obtain ⟨ne1, ne2, ne3⟩ := i.ne
  have hM : ∀ k, M k → w'.heap[k]? = w.heap[k]? := fun k hk2 => hk k (fun e => h.mr (e ▸ hk2)) (fun e => h.mi (e ▸ hk2)) (fun e => h.mf (e ▸ hk2))
  have hcM : Ch (fun k => Q k ∧ ¬ M k) w w' := ⟨hc.os, hc.tape, hc.output, hc.size, fun k hk1 hk2 => by
    by_cases hm : M k
    · exact hM k hm
    · exact hc.block k hk1 (fun hq => hk2 ⟨hq, hm⟩)⟩
  refine ⟨⟨by rw [hn]; exact i.n1, by rw [hn]; exact i.n2, hgen, hpg, by rw [hpi]; exact i.pn, by rw [hn]; exact hp, hi, hf, by rw [hn]; exact fl, fk, z0, ?_, i.e1, i.e2, i.e3⟩, ?_, by rw [hn, hd]; exact h.len, h.qr, h.qi, h.qf, h.qp, h.qm, h.mr, h.mi, h.mf, h.mp, fun k hk2 => ⟨(h.lt k hk2).1, Nat.lt_of_lt_of_le (h.lt k hk2).2 hc.size⟩, h.base.then hc (fun i hi hq => by have := (h.lt i hq).1; omega)⟩
  · rw [hpi]
    exact ownsRow_frame i.hP (fun k hk2 => hk k (fun e => ne3 (e ▸ hk2)) (fun e => i.e2 (e ▸ hk2)) (fun e => i.e3 (e ▸ hk2)))
  · rw [hd]
    exact h.disk.ch hcM (fun k hm hq => hq.2 hm)
/-- A page's state. -/
theorem RzI.is1 {w0 w : World} {rp rq ib fb : Nat} {Pv : Value} {p : Pg} {F : List Int} {M Q : Nat → Prop} (h : RzI w0 w rp rq ib fb Pv p F M Q) (i : Nat) (x : Nat × Nat) (hx4 : x.1 ≠ 4) (hxb : x.2 ≤ 4611686018427387904) (h2 : 2 ≤ i ∨ x.1 = 0) :
    RzI w0 (w.setCell ⟨ib, i, none⟩ (.int .i64 (x.1 : Int))) rp rq ib fb Pv { p with pages := p.pages.set i x } F M Q ∧ Ch Q w (w.setCell ⟨ib, i, none⟩ (.int .i64 (x.1 : Int))) := by
  have hc : Ch Q w (w.setCell ⟨ib, i, none⟩ (.int .i64 (x.1 : Int))) := (Ch.refl _ _).setCell (fun _ => h.qi) _
  obtain ⟨ne1, ne2, ne3⟩ := h.inn.ne
  refine ⟨h.turn _ F rfl rfl hc (fun k _ hk _ => Below.heap_setCell _ _ _ _ hk) (by simp) h.inn.gen (fun y hy => ?_) ?_ ?_ ?_ h.inn.fl (fun k y hy hy4 => ?_) (fun k y hk hy => ?_), hc⟩
  · rcases List.mem_or_eq_of_mem_set hy with h1 | h1
    · exact h.inn.pg y h1
    · rw [h1]; exact hxb
  · rw [Below.heap_setCell _ _ _ _ ne1]; exact h.inn.hp
  · rw [heap_set h.inn.hi, iV_set, ← isL_set]
  · rw [Below.heap_setCell _ _ _ _ (fun e => h.inn.e1 e.symm)]; exact h.inn.hf
  · by_cases hki : i = k
    · subst hki
      rw [List.getElem?_set] at hy
      simp only [if_true] at hy
      split at hy
      · cases hy; exact absurd hy4 hx4
      · cases hy
    · rw [List.getElem?_set_ne hki] at hy
      exact h.inn.fk k y hy hy4
  · by_cases hki : i = k
    · subst hki
      rw [List.getElem?_set] at hy
      simp only [if_true] at hy
      split at hy
      · cases hy; rcases h2 with h2 | h2
        · omega
        · exact h2
      · cases hy
    · rw [List.getElem?_set_ne hki] at hy
      exact h.inn.z0 k y hk hy
/-- A page waits. -/
theorem RzI.is4 {w0 w : World} {rp rq ib fb : Nat} {Pv : Value} {p : Pg} {F : List Int} {M Q : Nat → Prop} (h : RzI w0 w rp rq ib fb Pv p F M Q) (i g : Nat) (hg : g ≤ 4611686018427387904) (h2 : 2 ≤ i) (hin : i < p.pages.length) :
    RzI w0 ((w.setCell ⟨ib, i, none⟩ (.int .i64 4)).setCell ⟨fb, i, none⟩ (.int .i64 (g : Int))) rp rq ib fb Pv { p with pages := p.pages.set i (4, g) } (F.set i (g : Int)) M Q ∧ Ch Q w ((w.setCell ⟨ib, i, none⟩ (.int .i64 4)).setCell ⟨fb, i, none⟩ (.int .i64 (g : Int))) := by
  have hc : Ch Q w ((w.setCell ⟨ib, i, none⟩ (.int .i64 4)).setCell ⟨fb, i, none⟩ (.int .i64 (g : Int))) := ((Ch.refl _ _).setCell (fun _ => h.qi) _).setCell (fun _ => h.qf) _
  obtain ⟨ne1, ne2, ne3⟩ := h.inn.ne
  refine ⟨h.turn _ (F.set i (g : Int)) rfl rfl hc (fun k _ hk1 hk2 => by rw [Below.heap_setCell _ _ _ _ hk2, Below.heap_setCell _ _ _ _ hk1]) (by simp) h.inn.gen (fun y hy => ?_) ?_ ?_ ?_ (by rw [List.length_set]; exact h.inn.fl) (fun k y hy hy4 => ?_) (fun k y hk hy => ?_), hc⟩
  · rcases List.mem_or_eq_of_mem_set hy with h1 | h1
    · exact h.inn.pg y h1
    · rw [h1]; exact hg
  · rw [Below.heap_setCell _ _ _ _ ne2, Below.heap_setCell _ _ _ _ ne1]; exact h.inn.hp
  · rw [Below.heap_setCell _ _ _ _ h.inn.e1, heap_set h.inn.hi, show (4 : Int) = (((4, g) : Nat × Nat).1 : Int) from rfl, iV_set, ← isL_set]
  · have hf2 : (w.setCell ⟨ib, i, none⟩ (.int .i64 4)).heap[fb]? = some (.cells (iV F) 3 (0, 0)) := by
      rw [Below.heap_setCell _ _ _ _ (fun e => h.inn.e1 e.symm)]; exact h.inn.hf
    rw [heap_set hf2, iV_set]
  · by_cases hki : i = k
    · subst hki
      rw [List.getElem?_set_self hin] at hy
      cases hy
      rw [List.getElem?_set_self (by rw [h.inn.fl]; exact hin)]
    · rw [List.getElem?_set_ne hki] at hy
      rw [List.getElem?_set_ne hki]
      exact h.inn.fk k y hy hy4
  · rw [List.getElem?_set_ne (by omega)] at hy
    exact h.inn.z0 k y hk hy
/-- Gen and root turned. -/
theorem RzI.head {w0 w w' : World} {rp rq ib fb : Nat} {Pv : Value} {p : Pg} {F : List Int} {M Q : Nat → Prop} (h : RzI w0 w rp rq ib fb Pv p F M Q) (gen : Nat) (root : List UInt8) (dead : Bool) (hgen : gen ≤ 4611686018427387904) (hc : Ch (fun k => k = rp) w w')
    (hk : ∀ k, k ≠ rp → w'.heap[k]? = w.heap[k]?)
    (hp : w'.heap[rp]? = some (.cells #[.pointer (some ⟨rq, 0, none⟩), .int .i64 (gen : Int), .string ⟨root.toArray⟩, .slice (some ⟨ib, 0, none⟩) p.pages.length p.pages.length, .slice (some ⟨fb, 0, none⟩) p.pages.length p.pages.length, Pv, .bool dead] 116 (0, 0))) :
    RzI w0 w' rp rq ib fb Pv { p with gen := gen, root := root, dead := dead } F M Q ∧ Ch Q w w' := by
  have hc2 : Ch Q w w' := hc.mono (fun k _ e => by subst e; exact h.qr)
  obtain ⟨ne1, ne2, ne3⟩ := h.inn.ne
  exact ⟨h.turn _ F rfl rfl hc2 (fun k hk1 _ _ => hk k hk1) rfl hgen h.inn.pg hp ((hk ib (fun e => ne1 e.symm)).trans h.inn.hi) ((hk fb (fun e => ne2 e.symm)).trans h.inn.hf) h.inn.fl h.inn.fk h.inn.z0, hc2⟩
/-- The cells. -/
theorem RzI.cell {w0 w : World} {rp rq ib fb : Nat} {Pv : Value} {p : Pg} {F : List Int} {M Q : Nat → Prop} (h : RzI w0 w rp rq ib fb Pv p F M Q) {i : Nat} {x : Nat × Nat} (hx : p.pages[i]? = some x) :
    w.cell? ⟨ib, i, none⟩ = some (.int .i64 (x.1 : Int)) ∧ w.frozen? ⟨ib, i, none⟩ = false ∧ ib < w.heap.size := by
  refine ⟨?_, frozen_blk h.inn.hi _, blk_lt h.inn.hi⟩
  rw [cell_blk h.inn.hi]
  exact iV_get _ (isL_get hx)
theorem RzI.fcell {w0 w : World} {rp rq ib fb : Nat} {Pv : Value} {p : Pg} {F : List Int} {M Q : Nat → Prop} (h : RzI w0 w rp rq ib fb Pv p F M Q) {i : Nat} {x : Int} (hx : F[i]? = some x) :
    w.cell? ⟨fb, i, none⟩ = some (.int .i64 x) ∧ w.frozen? ⟨fb, i, none⟩ = false ∧ fb < w.heap.size := by
  refine ⟨?_, frozen_blk h.inn.hf _, blk_lt h.inn.hf⟩
  rw [cell_blk h.inn.hf]
  exact iV_get _ hx

section
variable {w0 : World} {rp rq : Nat} {p : Pg} {Q : Nat → Prop}
theorem rtold_any (e0 : Nat) (w : World) (h : RZ w0 w rp rq p Q) : Calls Try.prog 113 #[.pointer (some ⟨rp, 0, none⟩), .int .i64 (e0 : Int)] w fun e w' => e = .returned (.int .i64 (e0 : Int)) ∧ RPost w0 w rp rq (toldP p e0) Q w' := by
  obtain ⟨ib, fb, Pv, F, M, h1⟩ := h
  have f6 := frozen_blk h1.inn.hp 6
  have H1 := hid h1
  have hc6 := cell_blk h1.inn.hp 6
  simp at hc6
  clear h1
  by_cases h9 : e0 = 9
  · subst h9
    go_enter Try.func113, Try.ntmps113
    go_wp2
    go_ret
    have hc : Ch (fun k => k = rp) w (w.setCell ⟨rp, 6, none⟩ (.bool true)) := (Ch.refl (fun k => k = rp) w).setCell (fun _ => rfl) _
    obtain ⟨g1, g2⟩ := H1.out.head p.gen p.root true H1.out.inn.gen hc (fun k hk => Below.heap_setCell _ _ _ _ hk) (by rw [heap_set H1.out.inn.hp]; rfl)
    have e : toldP p 9 = { p with gen := p.gen, root := p.root, dead := true } := by unfold toldP; simp
    rw [e]
    exact ⟨rfl, Q, ⟨ib, fb, Pv, F, M, g1⟩, Fresh.refl _ _, g2⟩
  · have hb : ((e0 : Int) == 9) = false := by rw [beq_eq_false_iff_ne]; omega
    have e : toldP p e0 = p := by
      have h : (e0 == 9) = false := by rw [beq_eq_false_iff_ne]; exact h9
      unfold toldP
      rw [h, Bool.or_false]
    rw [e]
    clear h9 e
    go_enter Try.func113, Try.ntmps113
    go_wp2
    go_ret
    exact ⟨rfl, Q, ⟨ib, fb, Pv, F, M, H1.out⟩, Fresh.refl _ _, Ch.refl _ _⟩
theorem rpage_any (n : Int) (w : World) (h : RZ w0 w rp rq p Q) : Calls Try.prog 114 #[.pointer (some ⟨rp, 0, none⟩), .int .i64 n] w fun e w' => e = .returned (.bool (hasP p n)) ∧ w = w' := by
  obtain ⟨ib, fb, Pv, F, M, h1⟩ := h
  have c3 := cell_blk h1.inn.hp 3
  simp at c3
  have n2 := h1.inn.n2
  clear h1
  unfold hasP
  by_cases h2 : 2 ≤ n
  · by_cases h3 : n < p.pages.length
    · rw [decide_eq_true h2, decide_eq_true h3]
      go_enter Try.func114, Try.ntmps114
      go_wp2
      go_ret
      exact ⟨rfl, rfl⟩
    · rw [decide_eq_true h2, decide_eq_false h3]
      go_enter Try.func114, Try.ntmps114
      go_wp2
      go_ret
      exact ⟨rfl, rfl⟩
  · rw [decide_eq_false h2]
    go_enter Try.func114, Try.ntmps114
    go_wp2
    go_ret
    exact ⟨by simp, rfl⟩
set_option maxRecDepth 20000 in
set_option maxHeartbeats 1000000 in
theorem rfree_any (w : World) (h : RZ w0 w rp rq p Q) : Calls Try.prog 76 #[.pointer (some ⟨rp, 0, none⟩)] w fun e w' => e = .returned (.int .i64 (freeL p.pages : Int)) ∧ w = w' := by
  obtain ⟨ib, fb, Pv, F, M, h1⟩ := h
  have H1 := hid h1
  have c3 := cell_blk h1.inn.hp 3
  simp at c3
  have n1 := h1.inn.n1
  have n2 := h1.inn.n2
  obtain ⟨n, HN⟩ : ∃ n, Hid (p.pages.length = n) := ⟨_, hid rfl⟩
  rw [HN.out] at c3 n1 n2
  clear h1
  have H0 : Hid (frT p.pages 2 = 0) := hid (by
    unfold frT freeL
    rw [List.drop_take]
    simp)
  go_enter Try.func76, Try.ntmps76
  go_wp2
  go_loop [3, 4] (fun s i => ∃ (j f : Nat), i = .int .i64 (j : Int) ∧ 2 ≤ j ∧ j ≤ n ∧ s = .int .i64 (f : Int) ∧ f ≤ j ∧ Hid (frT p.pages j = f)) (fun _ i => n - (intOf i).toNat)
  case atStart => exact ⟨2, 0, rfl, by omega, by omega, rfl, by omega, H0⟩
  case round =>
    obtain ⟨j, f, rfl, hj2, hj, rfl, hfj, HFj⟩ := hrel
    by_cases hlt : j < n
    · obtain ⟨x, HXx⟩ : ∃ x, Hid (p.pages[j]? = some x) := ⟨p.pages[j]'(by rw [HN.out]; exact hlt), hid (List.getElem?_eq_getElem _)⟩
      obtain ⟨q1, q2, q3⟩ := H1.out.cell HXx.out
      have HS := hid (frT_succ HXx.out)
      by_cases h0 : x.1 = 0
      · have HE : Hid (frT p.pages (j + 1) = f + 1) := hid (by rw [HS.out, if_pos ⟨by omega, h0⟩, HFj.out])
        rw [h0] at q1
        clear h0
        go_wp2
        go_round
        case rel => exact ⟨j + 1, f + 1, by go_num, by omega, by omega, by go_num, by omega, HE⟩
        case measure => simp [intOf]; omega
      · have HE : Hid (frT p.pages (j + 1) = f) := hid (by rw [HS.out, if_neg (fun h => h0 h.2), HFj.out, Nat.add_zero])
        have h0b : ((x.1 : Int) == 0) = false := by rw [beq_eq_false_iff_ne]; omega
        clear h0
        go_wp2
        go_round
        case rel => exact ⟨j + 1, f, by go_num, by omega, by omega, rfl, by omega, HE⟩
        case measure => simp [intOf]; omega
    · obtain rfl : j = n := by omega
      have fin : Hid (freeL p.pages = f) := hid (by rw [← HFj.out, frT, List.take_of_length_le (by rw [HN.out]; exact Nat.le_refl _)])
      go_wp2
      go_ret
      exact ⟨by rw [fin.out]; rfl, rfl⟩
end

end Go.Proofs.Ytadhibemadgcoaa
