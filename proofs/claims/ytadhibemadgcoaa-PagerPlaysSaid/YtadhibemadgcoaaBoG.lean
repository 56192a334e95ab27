/- A crash of both disks, and both opened anew. Conditions: as each theorem says. -/
import Derived.Test.YtadhibemadgcoaaBoF
namespace Go.Proofs.Ytadhibemadgcoaa
open Go.RowKit

theorem xfacts {W : World} {xb : Nat} {a b c d : Option Addr} (h : W.heap[xb]? = some (.cells #[.pointer a, .pointer b, .pointer c, .pointer d] 110 (0, 0))) :
    W.cell? ⟨xb, 0, none⟩ = some (.pointer a) ∧ W.cell? ⟨xb, 2, none⟩ = some (.pointer c) ∧ W.frozen? ⟨xb, 0, none⟩ = false ∧ W.frozen? ⟨xb, 2, none⟩ = false ∧ xb < W.heap.size :=
  ⟨by rw [cell_blk h]; rfl, by rw [cell_blk h]; rfl, frozen_blk h _, frozen_blk h _, blk_lt h⟩
theorem reopen {w W0 w1 w3 : World} {xb dp rq dpn rqn : Nat} {po ro : Option Addr} {p : Pg} {Q Qr Mn Mrn : Nat → Prop} {kept : List (Int × Int)} (hX : Xh w W0 xb dp rq po ro p p Q Qr)
    (hD : DiskAt w1 dpn (crashD p.d kept) Mn Mn) (hc1 : Ch (fun _ => False) W0 w1) (hm : ∀ k, Mn k → W0.heap.size ≤ k) (hR : RAt w3 rqn (crashD p.d kept) Mrn) (hc3 : Ch (fun _ => False) w1 w3) (hmr : ∀ k, Mrn k → w1.heap.size ≤ k) :
    ∀ W5, W5 = (w3.setCell ⟨xb, 0, none⟩ (.pointer (some ⟨dpn, 0, none⟩))).setCell ⟨xb, 2, none⟩ (.pointer (some ⟨rqn, 0, none⟩)) → Calls Try.prog 72 #[.pointer (some ⟨xb, 0, none⟩)] W5 (BOpen w W5 xb dpn rqn (crashD p.d kept)) := by
  rintro W5 rfl
  have hxl := blk_lt hX.hx
  have hb := hX.ltq.2.2
  have z1 := hc1.size
  have z3 := hc3.size
  have zb := hb.size
  have hx3 := (hc3.block xb (by omega) (fun h => h)).trans ((hc1.block xb hxl (fun h => h)).trans hX.hx)
  have hcx : Ch (fun k => k = xb) w3 ((w3.setCell ⟨xb, 0, none⟩ (.pointer (some ⟨dpn, 0, none⟩))).setCell ⟨xb, 2, none⟩ (.pointer (some ⟨rqn, 0, none⟩))) := ((Ch.refl (fun k => k = xb) w3).setCell (fun _ => rfl) _).setCell (fun _ => rfl) _
  have hx0 := hX.x0
  have hbase : Ch (fun _ => False) w ((w3.setCell ⟨xb, 0, none⟩ (.pointer (some ⟨dpn, 0, none⟩))).setCell ⟨xb, 2, none⟩ (.pointer (some ⟨rqn, 0, none⟩))) := ((hb.trans hc1).trans hc3).then hcx (fun i hi e => by omega)
  have zx := hcx.size
  have hDl := (disk_ltF hD).1
  have hRl := hR.lt
  refine bopen_any (Q := Mn) (Qr := Mrn) po ro _ ⟨Mn, Mn, (hD.ch hc3 (fun _ _ h => h)).ch hcx (fun k hk e => by have := hm k hk; omega), fun _ h => h, fun k hk => ?_, hbase⟩ ⟨Mrn, hR.ch hcx (fun k hk e => by have := hmr k hk; omega), fun _ h => h, fun k hk => ?_, hbase⟩ (fun k hk hr => ?_) (Nat.zero_le _) ?_ (fun h => ?_) (fun h => ?_) hx0
  · have := hm k hk; have := hDl k hk; omega
  · have := hmr k hk; have := hRl k hk; omega
  · have := hmr k hr; have := hDl k hk; omega
  · rw [heap_set (heap_set hx3 0 _) 2 _]; rfl
  · have := hm xb h; omega
  · have := hmr xb h; omega

end Go.Proofs.Ytadhibemadgcoaa
