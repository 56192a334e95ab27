/- The pager laws' open: a disk and the reference's are opened. Conditions: as each theorem says. -/
import Derived.Test.YtadhibemadgcoaaBoA
namespace Go.Proofs.Ytadhibemadgcoaa
open Go.RowKit

/-- A disk, its blocks Q new since w0. -/
def DQ (w0 w : World) (dp : Nat) (d : Dk) (Q : Nat → Prop) : Prop := ∃ M F, DiskAt w dp d M F ∧ (∀ k, F k → Q k) ∧ (∀ k, Q k → w0.heap.size ≤ k ∧ k < w.heap.size) ∧ Ch (fun _ => False) w0 w
theorem DQ.ch {w0 w w' : World} {dp : Nat} {d : Dk} {Q S : Nat → Prop} (h : DQ w0 w dp d Q) (hc : Ch S w w') (hs : ∀ k, Q k → ¬ S k) (h0 : ∀ k, k < w0.heap.size → ¬ S k) : DQ w0 w' dp d Q := by
  obtain ⟨M, F, h1, h2, h3, h4⟩ := h
  exact ⟨M, F, h1.ch hc (fun k hk => hs k (h2 k hk)), h2, fun k hk => ⟨(h3 k hk).1, Nat.lt_of_lt_of_le (h3 k hk).2 hc.size⟩, h4.then hc (fun i hi hk => h0 i hi hk)⟩
theorem RQ.ch {w0 w w' : World} {rq : Nat} {d : Dk} {Q S : Nat → Prop} (h : RQ w0 w rq d Q) (hc : Ch S w w') (hs : ∀ k, Q k → ¬ S k) (h0 : ∀ k, k < w0.heap.size → ¬ S k) : RQ w0 w' rq d Q := by
  obtain ⟨M, h1, h2, h3, h4⟩ := h
  exact ⟨M, h1.ch hc (fun k hk => hs k (h2 k hk)), h2, fun k hk => ⟨(h3 k hk).1, Nat.lt_of_lt_of_le (h3 k hk).2 hc.size⟩, h4.then hc (fun i hi hk => h0 i hi hk)⟩
/-- The law's x: the disks, and the pagers, if there are any. -/
structure Xs (w0 w : World) (xb dp rq : Nat) (po ro : Option Addr) (p : Pg) (Q Qr : Nat → Prop) : Prop where
  hx : w.heap[xb]? = some (.cells #[.pointer (some ⟨dp, 0, none⟩), .pointer po, .pointer (some ⟨rq, 0, none⟩), .pointer ro] 110 (0, 0))
  xq : ¬ Q xb
  xr : ¬ Qr xb
  x0 : w0.heap.size ≤ xb
  dj : ∀ k, Q k → ¬ Qr k
  st : (po = none ∧ ro = none ∧ DQ w0 w dp p.d Q ∧ RQ w0 w rq p.d Qr) ∨ ∃ pp rp, po = some ⟨pp, 0, none⟩ ∧ ro = some ⟨rp, 0, none⟩ ∧ Two w0 w pp dp rp rq p Q Qr
theorem PZ.dq {w0 w : World} {pp dp : Nat} {p : Pg} {Q : Nat → Prop} (h : PZ w0 w pp dp p Q) : DQ w0 w dp p.d Q := by
  obtain ⟨gb, mb, M, F, O, h1, h2, h3, h4, h5⟩ := h
  exact ⟨M, F, h1.2.1, h2, h4, h5⟩
theorem RZ.rq {w0 w : World} {rp rq : Nat} {p : Pg} {Q : Nat → Prop} (h : RZ w0 w rp rq p Q) : RQ w0 w rq p.d Q := by
  obtain ⟨ib, fb, Pv, F, M, h⟩ := h
  exact ⟨M, h.disk, h.qm, h.lt, h.base⟩
theorem Xs.dq {w0 w : World} {xb dp rq : Nat} {po ro : Option Addr} {p : Pg} {Q Qr : Nat → Prop} (h : Xs w0 w xb dp rq po ro p Q Qr) : DQ w0 w dp p.d Q ∧ RQ w0 w rq p.d Qr := by
  rcases h.st with ⟨_, _, h1, h2⟩ | ⟨pp, rp, _, _, h3⟩
  · exact ⟨h1, h2⟩
  · exact ⟨h3.z.dq, h3.r.rq⟩
theorem Xs.quiet {w0 w w' : World} {xb dp rq : Nat} {po ro : Option Addr} {p : Pg} {Q Qr : Nat → Prop} (h : Xs w0 w xb dp rq po ro p Q Qr) (hc : Ch (fun _ => False) w w') : Xs w0 w' xb dp rq po ro p Q Qr := by
  refine ⟨(hc.block xb (blk_lt h.hx) (fun h => h)).trans h.hx, h.xq, h.xr, h.x0, h.dj, ?_⟩
  rcases h.st with ⟨a, b, h1, h2⟩ | ⟨pp, rp, a, b, h3⟩
  · exact .inl ⟨a, b, h1.ch hc (fun _ _ h => h) (fun _ _ h => h), h2.ch hc (fun _ _ h => h) (fun _ _ h => h)⟩
  · exact .inr ⟨pp, rp, a, b, h3.quiet hc⟩
theorem Xs.base {w0 w : World} {xb dp rq : Nat} {po ro : Option Addr} {p : Pg} {Q Qr : Nat → Prop} (h : Xs w0 w xb dp rq po ro p Q Qr) : Ch (fun _ => False) w0 w := by
  obtain ⟨M, F, _, _, _, h4⟩ := h.dq.1
  exact h4

def BOpen (w0 w : World) (xb dp rq : Nat) (d : Dk) (e : Ending) (w' : World) : Prop :=
  e = .returned (.bool true) ∧ (∃ po ro p Q Qr, Xs w0 w' xb dp rq po ro p Q Qr ∧ p.d = d ∧ p.pins = [] ∧ p.ops = 0) ∧ Ch (fun k => k = xb) w w'

set_option maxRecDepth 20000 in
set_option maxHeartbeats 4000000 in
theorem bopen_any {w0 : World} {xb dp rq : Nat} {d : Dk} {Q Qr : Nat → Prop} (pv rv : Option Addr) (w : World) (hd : DQ w0 w dp d Q) (hr : RQ w0 w rq d Qr) (dj : ∀ k, Q k → ¬ Qr k) (hwt : d.wait.length ≤ 1000000)
    (hx : w.heap[xb]? = some (.cells #[.pointer (some ⟨dp, 0, none⟩), .pointer pv, .pointer (some ⟨rq, 0, none⟩), .pointer rv] 110 (0, 0))) (xq : ¬ Q xb) (xr : ¬ Qr xb) (x0 : w0.heap.size ≤ xb) :
    Calls Try.prog 72 #[.pointer (some ⟨xb, 0, none⟩)] w (BOpen w0 w xb dp rq d) := by
  obtain ⟨M, F, hD, hFQ, hQl, hb0⟩ := id hd
  have HOp := hid (popen_any w hD hwt)
  have HDq := hid hd
  have HRq := hid hr
  have HDj := hid dj
  have HX := hid hx
  have HXq := hid (And.intro xq xr)
  have HX0 := hid x0
  have HF := hid (And.intro hFQ (And.intro hQl hb0))
  have HWt := hid hwt
  have c0 := cell_blk hx 0
  simp at c0
  obtain ⟨E, HE⟩ : ∃ E, Hid (openE d = E) := ⟨_, hid rfl⟩
  clear hD hd hr dj hx xq xr x0 hFQ hQl hb0 hwt
  unfold OpenPost at HOp
  rw [HE.out] at HOp
  go_enter Try.func72, Try.ntmps72
  go_wp2_with fail
  refine HOp.out.mono ?_
  rintro e w1 ⟨hc1, hres⟩
  have HC1 := hid hc1
  have hx1 := (hc1.block xb (blk_lt HX.out) (fun h => h)).trans HX.out
  have c2 := cell_blk hx1 2
  have HX1 := hid hx1
  simp at c2
  have HRo := hid (ropen_z w1 (HRq.out.ch hc1 (fun _ _ h => h) (fun _ _ h => h)) HWt.out)
  unfold ROpenPost at HRo
  rw [HE.out] at HRo
  clear c0 hc1 hx1
  rcases hres with ⟨hE, rfl⟩ | ⟨hE, pp, gb, mb, O, rfl, hX, hO⟩
  · have hEq : ((E : Int) == (E : Int)) = true := by simp
    have HEn := hid hE
    clear hE
    go_wp2_with fail
    refine HRo.out.mono ?_
    rintro e w2 ⟨hc2, hres2⟩
    rcases hres2 with ⟨_, rfl⟩ | ⟨hE2, _⟩
    · have hx2 := (hc2.block xb (blk_lt HX1.out) (fun h => h)).trans HX1.out
      have HX2 := hid hx2
      have d1 := cell_blk hx2 1
      have d3 := cell_blk hx2 3
      have f1 := frozen_blk hx2 1
      have f3 := frozen_blk hx2 3
      have hxz := blk_lt hx2
      simp at d1 d3
      have HC2 := hid (HC1.out.trans hc2)
      have fin : Hid (∀ w3, w3 = (w2.setCell ⟨xb, 1, none⟩ (.pointer none)).setCell ⟨xb, 3, none⟩ (.pointer none) → BOpen w0 w xb dp rq d (.returned (.bool true)) w3) := hid (by
        rintro w3 rfl
        have hcx : Ch (fun k => k = xb) w2 ((w2.setCell ⟨xb, 1, none⟩ (.pointer none)).setCell ⟨xb, 3, none⟩ (.pointer none)) := ((Ch.refl (fun k => k = xb) w2).setCell (fun _ => rfl) _).setCell (fun _ => rfl) _
        have hxx : ((w2.setCell ⟨xb, 1, none⟩ (.pointer none)).setCell ⟨xb, 3, none⟩ (.pointer none)).heap[xb]? = some (.cells #[.pointer (some ⟨dp, 0, none⟩), .pointer none, .pointer (some ⟨rq, 0, none⟩), .pointer none] 110 (0, 0)) := by
          rw [heap_set (heap_set HX2.out 1 _) 3 _]; rfl
        have hx0 := HX0.out
        refine ⟨rfl, ⟨none, none, newP d (accR d 0), Q, Qr, ⟨hxx, HXq.out.1, HXq.out.2, HX0.out, HDj.out, .inl ⟨rfl, rfl, ?_, ?_⟩⟩, rfl, rfl, rfl⟩, (HC2.out.mono (fun _ _ h => h.elim)).trans hcx⟩
        · exact (HDq.out.ch HC2.out (fun _ _ h => h) (fun _ _ h => h)).ch hcx (fun k hk e => HXq.out.1 (e ▸ hk)) (fun k hk e => by omega)
        · exact (HRq.out.ch HC2.out (fun _ _ h => h) (fun _ _ h => h)).ch hcx (fun k hk e => HXq.out.2 (e ▸ hk)) (fun k hk e => by omega))
      clear hc2 hx2 c2
      go_wp2_with (go_at_call 55; refine (no3_any _ _).mono ?_; rintro e w' ⟨rfl, rfl⟩)
      go_ret
      exact fin.out _ rfl
    · exact absurd hE2 HEn.out
  · subst hE
    have hX1 := hid hX
    have HO := hid hO
    clear hX hO
    go_wp2_with fail
    refine HRo.out.mono ?_
    rintro e w2 ⟨hc2, hres2⟩
    rcases hres2 with ⟨hE2, _⟩ | ⟨_, rp, Qr1, rfl, hz, hf⟩
    · exact absurd rfl hE2
    · have hx2 := (hc2.block xb (blk_lt HX1.out) (fun h => h)).trans HX1.out
      have HX2 := hid hx2
      have d1 := cell_blk hx2 1
      have d3 := cell_blk hx2 3
      have f1 := frozen_blk hx2 1
      have f3 := frozen_blk hx2 3
      have hxz := blk_lt hx2
      simp at d1 d3
      have HC2 := hid hc2
      have HZ := hid hz
      have HFr := hid hf
      have fin : Hid (∀ w3, w3 = (w2.setCell ⟨xb, 1, none⟩ (.pointer (some ⟨pp, 0, none⟩))).setCell ⟨xb, 3, none⟩ (.pointer (some ⟨rp, 0, none⟩)) → BOpen w0 w xb dp rq d (.returned (.bool true)) w3) := hid (by
        rintro w3 rfl
        have hcx : Ch (fun k => k = xb) w2 ((w2.setCell ⟨xb, 1, none⟩ (.pointer (some ⟨pp, 0, none⟩))).setCell ⟨xb, 3, none⟩ (.pointer (some ⟨rp, 0, none⟩))) := ((Ch.refl (fun k => k = xb) w2).setCell (fun _ => rfl) _).setCell (fun _ => rfl) _
        have hxx : ((w2.setCell ⟨xb, 1, none⟩ (.pointer (some ⟨pp, 0, none⟩))).setCell ⟨xb, 3, none⟩ (.pointer (some ⟨rp, 0, none⟩))).heap[xb]? = some (.cells #[.pointer (some ⟨dp, 0, none⟩), .pointer (some ⟨pp, 0, none⟩), .pointer (some ⟨rq, 0, none⟩), .pointer (some ⟨rp, 0, none⟩)] 110 (0, 0)) := by
          rw [heap_set (heap_set HX2.out 1 _) 3 _]; rfl
        have hx0 := HX0.out
        have hFO := hX1.out.2.2.2.2.2.2
        have hFl := (disk_ltF hX1.out.2.1).1
        have z1 := HC1.out.size
        have hxlt := blk_lt HX.out
        have hql := HF.out.2.1
        have hPZ : PZ w0 w1 pp dp (openP d) (fun k => Q k ∨ O k) := ⟨gb, mb, M, F, O, hX1.out, fun k hk => .inl (HF.out.1 k hk), fun k hk => .inr hk, fun k hk => (by
          have hbz := HF.out.2.2.size
          rcases hk with hk | hk
          · have := hql k hk; omega
          · have := HO.out k hk; have := (hFO k hk).2; omega), HF.out.2.2.trans HC1.out⟩
        have hxn : ¬ (Q xb ∨ O xb) := fun h => by
          rcases h with h | h
          · exact HXq.out.1 h
          · have := HO.out xb h; omega
        have hxr : ¬ Qr1 xb := fun h => by
          rcases HFr.out xb h with h | h
          · exact HXq.out.2 h
          · omega
        obtain ⟨Mr, _, _, hrl, _⟩ := HRq.out
        refine ⟨rfl, ⟨some ⟨pp, 0, none⟩, some ⟨rp, 0, none⟩, openP d, fun k => Q k ∨ O k, Qr1, ⟨hxx, hxn, hxr, HX0.out, fun k hk hr => ?_, .inr ⟨pp, rp, rfl, rfl, ?_⟩⟩, rfl, rfl, rfl⟩, ((HC1.out.trans HC2.out).mono (fun _ _ h => h.elim)).trans hcx⟩
        · rcases HFr.out k hr with h | h
          · rcases hk with hk | hk
            · exact HDj.out k hk h
            · have := HO.out k hk; have := (hrl k h).2; omega
          · rcases hk with hk | hk
            · have := (hql k hk).2; omega
            · have := (hFO k hk).2; omega
        · refine Two.ch ⟨hPZ.ch HC2.out (fun _ _ h => h) (fun _ _ h => h), HZ.out, fun k hk hr => ?_⟩ hcx (fun k hk e => ?_) (fun k hk e => by omega)
          · rcases HFr.out k hr with h | h
            · rcases hk with hk | hk
              · exact HDj.out k hk h
              · have := HO.out k hk; have := (hrl k h).2; omega
            · rcases hk with hk | hk
              · have := (hql k hk).2; omega
              · have := (hFO k hk).2; omega
          · subst e
            rcases hk with hk | hk
            · exact hxn hk
            · exact hxr hk)
      clear hc2 hx2 c2 hz hf
      go_wp2_with (go_at_call 55; refine (no3_any _ _).mono ?_; rintro e w' ⟨rfl, rfl⟩)
      go_ret
      exact fin.out _ rfl

end Go.Proofs.Ytadhibemadgcoaa
