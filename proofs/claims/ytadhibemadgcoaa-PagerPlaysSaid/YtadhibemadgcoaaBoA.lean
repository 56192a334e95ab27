/- A pager and the reference's, side by side; how far a call may raise the numbers. Conditions: as each lemma says. -/
import Derived.Test.YtadhibemadgcoaaRpK
import Derived.Test.YtadhibemadgcoaaPgWb
namespace Go.Proofs.Ytadhibemadgcoaa
open Go.RowKit

/-- A pager and the reference's, alike. -/
structure Two (w0 w : World) (pp dp rp rq : Nat) (p : Pg) (Q Qr : Nat → Prop) : Prop where
  z : PZ w0 w pp dp p Q
  r : RZ w0 w rp rq p Qr
  dj : ∀ k, Q k → ¬ Qr k
def TPost (w0 w : World) (pp dp rp rq : Nat) (p : Pg) (Q Qr : Nat → Prop) (w' : World) : Prop :=
  ∃ Q1 Qr1, Two w0 w' pp dp rp rq p Q1 Qr1 ∧ Fresh w Q Q1 ∧ Fresh w Qr Qr1 ∧ Ch (fun k => Q k ∨ Qr k) w w'
section
variable {w0 w w' w1 w2 w3 : World} {pp dp rp rq : Nat} {p p' : Pg} {Q Q1 Qr : Nat → Prop}
theorem Two.ch {S : Nat → Prop} (h : Two w0 w pp dp rp rq p Q Qr) (hc : Ch S w w') (hs : ∀ k, Q k ∨ Qr k → ¬ S k) (h0 : ∀ k, k < w0.heap.size → ¬ S k) : Two w0 w' pp dp rp rq p Q Qr :=
  ⟨h.z.ch hc (fun k hk => hs k (.inl hk)) h0, h.r.ch hc (fun k hk => hs k (.inr hk)) h0, h.dj⟩
theorem Two.quiet (h : Two w0 w pp dp rp rq p Q Qr) (hc : Ch (fun _ => False) w w') : Two w0 w' pp dp rp rq p Q Qr := h.ch hc (fun _ _ h => h) (fun _ _ h => h)
/-- The pager alone has been called. -/
theorem Two.mid (h : Two w0 w pp dp rp rq p Q Qr) (h1 : ZPost w0 w pp dp p' Q w1) : ∃ Q1, PZ w0 w1 pp dp p' Q1 ∧ RZ w0 w1 rp rq p Qr ∧ (∀ k, Q1 k → ¬ Qr k) ∧ Fresh w Q Q1 ∧ Ch Q w w1 := by
  obtain ⟨Q1, k1, k2, k3⟩ := h1
  have hl := h.r.lt
  have hz := h.z.lt
  refine ⟨Q1, k1, h.r.ch k3 (fun k hk hq => h.dj k hq hk) (fun k hk hq => by have := hz k hq; omega), fun k hk hr => ?_, k2, k3⟩
  rcases k2 k hk with hq | hq
  · exact h.dj k hq hr
  · have := hl k hr; omega
/-- The reference has been called, too. -/
theorem Two.fin (hz : PZ w0 w1 pp dp p' Q1) (hd : ∀ k, Q1 k → ¬ Qr k) (hf : Fresh w Q Q1) (hc : Ch Q w w1) (hl : ∀ k, Qr k → w0.heap.size ≤ k ∧ k < w.heap.size) (hq : Ch (fun _ => False) w1 w2) (h2 : RPost w0 w2 rp rq p' Qr w3) : TPost w0 w pp dp rp rq p' Q Qr w3 := by
  obtain ⟨Qr1, k1, k2, k3⟩ := h2
  have hz2 := hz.ch hq (fun _ _ h => h) (fun _ _ h => h)
  have z1 := hc.size
  have z2 := hq.size
  have hlt := hz.lt
  have hrl := k1.lt
  refine ⟨Q1, Qr1, ⟨hz2.ch k3 (fun k hk hr => hd k hk hr) (fun k hk hr => by have := hl k hr; omega), k1, fun k hk hr => ?_⟩, hf, fun k hk => ?_, ?_⟩
  · rcases k2 k hr with h | h
    · exact hd k hk h
    · have := hlt k hk; omega
  · rcases k2 k hk with h | h
    · exact .inl h
    · exact .inr (by omega)
  · exact ((hc.mono (fun k _ h => .inl h)).trans (hq.mono (fun _ _ h => h.elim))).trans (k3.mono (fun k _ h => .inr h))
end

/-- Bounds of a pager's numbers. -/
structure PB (p : Pg) (k : Nat) : Prop where
  pl : Pl p.d p.d.L.length k
  pins : p.pins.length ≤ k
  ops : p.ops ≤ k
theorem PB.up {p : Pg} {k k' : Nat} (h : PB p k) (hk : k ≤ k') : PB p k' := ⟨⟨rfl, Nat.le_trans h.pl.steps hk, Nat.le_trans h.pl.wait hk⟩, Nat.le_trans h.pins hk, Nat.le_trans h.ops hk⟩
theorem PB.same {p p' : Pg} {k : Nat} (h : PB p k) (hd : p'.d = p.d) (hp : p'.pins = p.pins) (ho : p'.ops = p.ops) : PB p' k := by
  refine ⟨?_, by rw [hp]; exact h.pins, by rw [ho]; exact h.ops⟩
  rw [hd]; exact h.pl
theorem PB.disk {p p' : Pg} {k k' : Nat} {d' : Dk} (h : PB p k) (hk : k ≤ k') (hp : Pl d' p.d.L.length k') (hd : p'.d = d') (hpi : p'.pins = p.pins) (ho : p'.ops = p.ops) : PB p' k' :=
  ⟨by rw [hd]; exact ⟨rfl, hp.steps, hp.wait⟩, by rw [hpi]; exact Nat.le_trans h.pins hk, by rw [ho]; exact Nat.le_trans h.ops hk⟩
theorem PB.put {p : Pg} {k : Nat} (h : PB p k) (kind : Int) (s : List UInt8) : PB (putP p kind s).2.2 (k + 3) := by
  have hw := fun a b => h.pl.write a b
  unfold putP
  split
  · exact h.up (by omega)
  · split
    · exact h.up (by omega)
    · split
      · exact h.up (by omega)
      · split
        · exact h.disk (by omega) (⟨(hw _ _).len, by have := (hw (ffL p.pages : Int) (sealL kind ((p.gen : Int) + 1) s)).steps; omega, by have := (hw (ffL p.pages : Int) (sealL kind ((p.gen : Int) + 1) s)).wait; omega⟩ : Pl _ p.d.L.length (k + 3)) rfl rfl rfl
        · exact h.disk (by omega) (⟨(hw _ _).len, by have := (hw (ffL p.pages : Int) (sealL kind ((p.gen : Int) + 1) s)).steps; omega, by have := (hw (ffL p.pages : Int) (sealL kind ((p.gen : Int) + 1) s)).wait; omega⟩ : Pl _ p.d.L.length (k + 3)) rfl rfl rfl
theorem Pl.more {d : Dk} {n i j : Nat} (h : Pl d n i) (hj : i ≤ j) : Pl d n j := ⟨h.len, Nat.le_trans h.steps hj, Nat.le_trans h.wait hj⟩
theorem Pl.root {d : Dk} {n i : Nat} (h : Pl d n i) (g : Nat) (b : List UInt8) : Pl (rootW d g b).2 n (i + 3) := by
  unfold rootW
  split
  · exact h.flush.more (by omega)
  · split
    · exact (h.flush.write _ _).more (by omega)
    · exact (h.flush.write _ _).flush
theorem PB.commit {p : Pg} {k : Nat} (h : PB p k) (s : List UInt8) : PB (commitP p s).2 (k + 3) := by
  unfold commitP
  split
  · exact h.up (by omega)
  · split
    · exact h.up (by omega)
    · split
      · exact h.disk (by omega) (h.pl.root _ _) rfl rfl rfl
      · exact h.disk (by omega) (h.pl.root _ _) rfl rfl rfl
theorem PB.read {p : Pg} {k : Nat} (h : PB p k) (i : Int) : PB (readP p i).2 (k + 3) := by
  unfold readP
  split
  · exact h.up (by omega)
  · split
    · exact h.up (by omega)
    · split
      · exact (h.up (show k ≤ k + 3 by omega)).same rfl rfl rfl
      · split <;> exact h.up (by omega)
theorem PB.drop {p : Pg} {k : Nat} (h : PB p k) (i : Int) : PB (dropP p i).2 (k + 3) := by
  unfold dropP
  split
  · exact h.up (by omega)
  · split
    · split
      · exact (h.up (show k ≤ k + 3 by omega)).same rfl rfl rfl
      · split
        · exact (h.up (show k ≤ k + 3 by omega)).same rfl rfl rfl
        · exact h.up (by omega)
    · exact h.up (by omega)
theorem PB.abort {p : Pg} {k : Nat} (h : PB p k) : PB (abortP p) (k + 3) := (h.up (show k ≤ k + 3 by omega)).same rfl rfl rfl
theorem PB.pin {p : Pg} {k : Nat} (h : PB p k) : PB (pinP p) (k + 3) :=
  ⟨h.pl.more (by omega), by show (p.pins ++ [p.gen]).length ≤ _; rw [List.length_append]; have := h.pins; simp; omega, by show p.ops + 1 ≤ _; have := h.ops; omega⟩
theorem PB.unpin {p : Pg} {k : Nat} (h : PB p k) (g : Int) : PB (unpinP p g).2 (k + 3) := by
  unfold unpinP
  split
  · exact h.up (by omega)
  · exact ⟨h.pl.more (by omega), by show (p.pins.erase g.toNat).length ≤ _; have := h.pins; have := List.length_erase_le (a := g.toNat) (l := p.pins); omega, by show p.ops + 1 ≤ _; have := h.ops; omega⟩
theorem PB.use {p : Pg} {k : Nat} (h : PB p k) (l : List Int) : PB (useP p l).2 (k + 3) := by
  unfold useP
  split
  · exact h.up (by omega)
  · split
    · exact h.up (by omega)
    · exact (h.up (show k ≤ k + 3 by omega)).same rfl rfl rfl

theorem read_y {w0 w : World} {pp dp : Nat} {p : Pg} {Q : Nat → Prop} (j : Int) (h : PZ w0 w pp dp p Q) (hw : p.d.wait.length ≤ 900000) :
    Calls Try.prog 64 #[.pointer (some ⟨pp, 0, none⟩), .int .i64 j] w fun e w' => e = .returned (.tuple #[.int .i64 ((readP p j).1.1 : Nat), .string ⟨(readP p j).1.2.1.toArray⟩, .int .i64 ((readP p j).1.2.2 : Nat)]) ∧ ZPost w0 w pp dp (readP p j).2 Q w' := by
  obtain ⟨gb, mb, M, F, O, h1, h2, h3, h4, h5⟩ := id h
  refine (pread_any j w h1 (by omega)).mono ?_
  rintro e w' ⟨rfl, k1, k4⟩
  exact ⟨rfl, ZPost.mk' h h2 h3 k1 (Fresh.refl _ _) (k4.mono fun i _ hi => h3 i hi)⟩

end Go.Proofs.Ytadhibemadgcoaa
